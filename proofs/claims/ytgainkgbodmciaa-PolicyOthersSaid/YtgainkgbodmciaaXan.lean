/- The reference's Sort of interfaces. -/
import Derived.Test.YtgainkgbodmciaaXam
import Derived.Test.YtgainkgbodmciaaXak
namespace Go.Proofs.Ytgainkgbodmciaa
open Go.RowKit

def insI (out : List If) (x : If) : List If := out.takeWhile (fun y => decide (y.id < x.id)) ++ x :: out.dropWhile (fun y => decide (y.id < x.id))
def sortI (l : List If) : List If := l.foldl insI []
theorem insI_length (out : List If) (x : If) : (insI out x).length = out.length + 1 := by
  have := congrArg List.length (List.takeWhile_append_dropWhile (p := fun y : If => decide (y.id < x.id)) (l := out))
  unfold insI
  rw [List.length_append] at this
  rw [List.length_append, List.length_cons]
  omega
theorem sortI_length (l : List If) : (sortI l).length = l.length := by
  have : ∀ (l out : List If), (l.foldl insI out).length = out.length + l.length := by
    intro l
    induction l with
    | nil => intro out; rfl
    | cons x r ih => intro out; rw [List.foldl_cons, ih, insI_length, List.length_cons]; omega
  have h := this l []
  rw [List.length_nil, Nat.zero_add] at h
  exact h
theorem sortI_succ {l : List If} {i : Nat} (hi : i < l.length) : sortI (l.take (i + 1)) = insI (sortI (l.take i)) (l.getD i default) := by
  unfold sortI
  rw [List.take_succ_eq_append_getElem hi, List.foldl_append]
  simp [List.getD_eq_getElem?_getD, hi]
theorem insI_mem {out : List If} {x y : If} : y ∈ insI out x ↔ y = x ∨ y ∈ out := by
  have : y ∈ out ↔ y ∈ out.takeWhile (fun y => decide (y.id < x.id)) ++ out.dropWhile (fun y => decide (y.id < x.id)) := by rw [List.takeWhile_append_dropWhile]
  rw [this]
  unfold insI
  simp only [List.mem_append, List.mem_cons]
  constructor
  · rintro (h | h | h)
    · exact .inr (.inl h)
    · exact .inl h
    · exact .inr (.inr h)
  · rintro (h | h | h)
    · exact .inr (.inl h)
    · exact .inl h
    · exact .inr (.inr h)
theorem sortI_mem {l : List If} {y : If} : y ∈ sortI l ↔ y ∈ l := by
  have : ∀ (l out : List If), y ∈ l.foldl insI out ↔ y ∈ out ∨ y ∈ l := by
    intro l
    induction l with
    | nil => intro out; simp
    | cons x r ih =>
      intro out
      rw [List.foldl_cons, ih, insI_mem, List.mem_cons]
      constructor
      · rintro ((h | h) | h)
        · exact .inr (.inl h)
        · exact .inl h
        · exact .inr (.inr h)
      · rintro (h | h | h)
        · exact .inl (.inr h)
        · exact .inl (.inl h)
        · exact .inr h
  have h := this l []
  unfold sortI
  simpa using h
theorem insI_cut {out : List If} {x : If} {k : Nat} (h1 : ∀ j, j < k → (out.getD j default).id < x.id) (h2 : k = out.length ∨ k < out.length ∧ ¬ (out.getD k default).id < x.id) : out.take k ++ [x] ++ out.drop k = insI out x := by
  induction out generalizing k with
  | nil =>
    obtain rfl : k = 0 := by
      rcases h2 with h | h
      · simpa using h
      · simp at h
    rfl
  | cons y r ih =>
    cases k with
    | zero =>
      have hy : ¬ y.id < x.id := by
        rcases h2 with h | h
        · simp at h
        · exact h.2
      unfold insI
      simp [hy]
    | succ k =>
      have hy : y.id < x.id := h1 0 (by omega)
      have := ih (k := k) (fun j hj => h1 (j + 1) (by omega)) (by
        rcases h2 with h | h
        · exact .inl (by simpa using h)
        · exact .inr ⟨by simpa using h.1, h.2⟩)
      unfold insI at *
      simp [hy] at this ⊢
      exact this
def IfAt (b o : Nat) (x : If) (w : World) : Prop := w.cell? ⟨b, o, none⟩ = some (.int .i64 x.id) ∧ w.cell? ⟨b, o + 1, none⟩ = some (.int .i64 x.r) ∧ w.cell? ⟨b, o + 2, none⟩ = some (.int .u32 (x.ad : Int)) ∧ w.cell? ⟨b, o + 3, none⟩ = some (.int .i64 x.ln) ∧ w.cell? ⟨b, o + 4, none⟩ = some (.int .i64 x.cp)
theorem T23 : Rep.Ty Try.prog 23 RIf 40 := Rep.Ty.mk' (z := .agg #[.int .i64 0, .int .i64 0, .int .u32 0, .int .i64 0, .int .i64 0]) Try.underlying23 (by kernel_rfl) rfl
set_option maxRecDepth 100000 in
set_option maxHeartbeats 2000000 in
theorem rsort_any {w : World} {oa : Option Addr} {n c : Nat} {l : List If} (h : Ifs w oa n c l) (hn : n ≤ 4294967296) : Calls Try.prog 41 #[.slice oa n c] w fun e w' => ∃ v, e = .returned v ∧ RIf.Own w' w.heap.size v (sortI l) ∧ Below w.heap.size w w' := by
  have HL := Lib.hid h.sl.len
  have F := Lib.hid h
  have hmax := h.sl.max
  clear h
  go_enter Try.func41, Try.ntmps41
  go_wp2_with fail
  go_loopw [3, 4] (fun ov iv wr => ∃ i : Nat, i ≤ n ∧ iv = .int .i64 i ∧ RIf.Own wr w.heap.size ov (sortI (l.take i)) ∧ Below w.heap.size w wr) (fun _ iv _ => n - (intOf iv).toNat)
  case atStart => exact ⟨0, Nat.zero_le _, rfl, Rep.Own.nil _ _, Below.refl _ _⟩
  case round =>
    obtain ⟨i, hi, rfl, hown, hb⟩ := hrel
    obtain ⟨w2, rfl⟩ : ∃ w2 : World, w2 = wr := ⟨_, rfl⟩
    by_cases hlt : i < n
    · have hil : ((i : Int) < (n : Int)) = True := by simp; omega
      have hw3 := wrapS hlt hmax
      have hlen : l.length = n := HL.out.symm
      have hsl : (sortI (l.take i)).length = i := by rw [sortI_length, List.length_take]; omega
      have t1 := sortI_succ (l := l) (i := i) (by omega)
      obtain ⟨x, hx⟩ : ∃ x, l.getD i default = x := ⟨_, rfl⟩
      obtain ⟨b0, o0, hoa⟩ : ∃ b0 o0, oa = some ⟨b0, o0, none⟩ := by obtain ⟨b0, o0, e, -⟩ := F.out.sl.at hlt; exact ⟨b0, o0, e⟩
      subst hoa
      have hxc : ∀ w', Below w.heap.size w w' → IfAt b0 (o0 + i * 5) x w' := fun w' hw' => by
        obtain ⟨b1, o1, e1, -, hat⟩ := (F.out.keep hw').sl.at hlt
        obtain ⟨rfl, rfl⟩ : b0 = b1 ∧ o0 = o1 := by simp only [Option.some.injEq, Addr.mk.injEq] at e1; exact ⟨e1.1, e1.2.1⟩
        rw [hx] at hat
        have c0 := hat 0 (by decide)
        have c1 := hat 1 (by decide)
        have c2 := hat 2 (by decide)
        have c3 := hat 3 (by decide)
        have c4 := hat 4 (by decide)
        simp only [RIf, Nat.add_zero, List.getElem?_cons_zero, List.getElem?_cons_succ] at c0 c1 c2 c3 c4
        exact ⟨c0, c1, c2, c3, c4⟩
      have HX := Lib.hid hxc
      rw [hx] at t1
      clear hxc hx
      generalize sortI (l.take i) = L at *
      rcases hown.cases with ⟨rfl, rfl⟩ | ⟨g, cap, hv, hg, hgl, h1, h2, hrow, hfr, hcur⟩
      · obtain rfl : i = 0 := by simpa using hsl.symm
        rw [show ((0 : Nat) : Int) = 0 from rfl]
        have hx0 := HX.out
        rw [Nat.zero_mul, Nat.add_zero] at hx0
        have HX := Lib.hid hx0
        clear hx0
        go_wp2_with fail
        go_loopw [5] (fun kv wr => kv = .int .i64 0 ∧ wr = w2) (fun _ _ => 0)
        case atStart => exact ⟨rfl, rfl⟩
        case round =>
          obtain ⟨rfl, rfl⟩ := hrel
          go_wp2_with fail
          refine wp_region_heldP (fun w' => w' = wr.drew) (by kernel_rfl) ?_
          refine held_reads [0, 1, 2, 3, 4, 5, 6, 7, 8, 9, 10, 11, 12, 13, 14, 15, 16] (g := 0) rfl (by kernel_rfl) rfl (fun _ _ d _ _ h => by cases d <;> exact h) ?_
          simp only [pick, List.getD_cons_zero, List.getD_cons_succ]
          iterate 17 ((with_reducible refine wpRead_step (fun K hK => ?_)); go_simp; first | (rw [if_neg (by decide)]; (with_reducible refine hK _ ?_); clear hK K) | ((with_reducible refine hK _ ?_); clear hK K) | (apply Exists.intro; (with_reducible refine ⟨fun w' hw' => ?_, hK _ ?_⟩); (subst hw'; go_simp; first | exact rfl | exact ⟨rfl, rfl⟩); clear hK K))
          with_reducible refine wpRead_nil ?_
          refine wpAnyH_done (by kernel_rfl) ?_ _
          go_wp2_with fail
          have HT := Lib.hid (And.intro (bcall hb (Nat.le_refl _) ((Below.refl wr.heap.size wr).alloc (Nat.le_refl _) (.cells #[] 83)).drew) (And.intro (Rep.sl_nil : RIf.Sl (wr.alloc (.cells #[] 83)).drew (some ⟨wr.heap.size, 0, none⟩) 0 0 ([] : List If)) (And.intro (show (some ⟨wr.heap.size, 0, none⟩ : Option Addr) = none → (0 : Nat) = 0 from fun _ => rfl) (Rep.sl_nil : RIf.Sl (wr.alloc (.cells #[] 83)).drew none 0 0 ([] : List If)))))
          clear hb hown
          generalize (wr.alloc (.cells #[] 83)).drew = Wt at *
          generalize wr.heap.size = q6 at *
          refine wp_region_heldP (Below w.heap.size w) (by kernel_rfl) ?_
          refine held_reads [0, 1, 2, 3, 4, 5, 6, 7, 10] (g := 4) rfl (by kernel_rfl) HT.out.1.drew (fun _ _ d _ _ h => by cases d <;> exact h) ?_
          simp only [pick, List.getD_cons_zero, List.getD_cons_succ]
          iterate 9 ((with_reducible refine wpRead_step (fun K hK => ?_)); go_simp; first | ((with_reducible refine hK _ ?_); clear hK K) | (apply Exists.intro; (with_reducible refine ⟨fun w' hw' => ?_, hK _ ?_⟩); (obtain ⟨f0, f1, f2, f3, f4⟩ := HX.out _ hw'; go_simp; first | exact rfl | exact ⟨rfl, rfl⟩); clear hK K))
          with_reducible refine wpRead_nil ?_
          have hd := (Below.refl Wt.heap.size Wt).drew
          have HT := Lib.hid (And.intro (bcall HT.out.1 (Nat.le_refl _) hd) (And.intro (HT.out.2.1.keep hd) (And.intro HT.out.2.2.1 (HT.out.2.2.2.keep hd))))
          clear hd
          generalize Wt.drew = W5 at *
          refine held_one 8 (by kernel_rfl) ?_
          simp only [pick, List.getD_cons_zero, List.getD_cons_succ]
          go_wp2_with fail
          have hal := (Below.refl W5.heap.size W5).alloc (Nat.le_refl _) (.cells #[.int .i64 x.id, .int .i64 x.r, .int .u32 (x.ad : Int), .int .i64 x.ln, .int .i64 x.cp] 83)
          have hone : RIf.Sl (W5.alloc (.cells #[.int .i64 x.id, .int .i64 x.r, .int .u32 (x.ad : Int), .int .i64 x.ln, .int .i64 x.cp] 83)) (some ⟨W5.heap.size, 0, none⟩) 1 1 [x] := Rep.sl_one (R := RIf) (y := x) (hnew _ _)
          have HT := Lib.hid (And.intro (bcall HT.out.1 (Nat.le_refl _) hal) (And.intro (HT.out.2.1.keep hal) (And.intro HT.out.2.2.1 (And.intro (HT.out.2.2.2.keep hal) hone))))
          clear hal hone
          generalize W5.alloc (.cells #[.int .i64 x.id, .int .i64 x.r, .int .u32 (x.ad : Int), .int .i64 x.ln, .int .i64 x.cp] 83) = W6 at *
          generalize W5.heap.size = q5 at *
          refine ⟨HT.out.1, ?_⟩
          refine held_one 9 (by kernel_rfl) ?_
          simp only [pick, List.getD_cons_zero, List.getD_cons_succ]
          go_wp2_with (at_builtin; refine halt ?_)
          refine Halted.go ?_
          refine Rep.append_cut T23 rfl _ _ rfl rfl HT.out.2.2.2.1 rfl HT.out.2.2.2.2 (by omega) (by unfold maxLen; omega) (by omega) ?_
          intro v7 W7 hown7 hb7
          have hbb := bcall HT.out.1 (Nat.le_refl _) hb7
          have HT := Lib.hid (And.intro hbb (And.intro (HT.out.2.1.keep hb7) (And.intro HT.out.2.2.1 (hown7.mono HT.out.1.size))))
          clear hbb hb7 hown7
          go_wp2_with fail
          refine ⟨HT.out.1, ?_⟩
          refine held_one 11 (by kernel_rfl) ?_
          simp only [pick, List.getD_cons_zero, List.getD_cons_succ]
          go_wp2_with (at_builtin; refine halt ?_)
          refine Halted.go ?_
          refine Rep.append_list T23 rfl _ _ rfl rfl HT.out.2.2.2 rfl HT.out.2.1 (fun _ => rfl) (by unfold maxLen; simp) (by simp) HT.out.1.size ?_
          intro v8 W8 hown8 hb8 _
          have hbb := HT.out.1.trans hb8
          rw [show ([] ++ [x] ++ [] : List If) = insI [] x from rfl, ← t1] at hown8
          have HT := Lib.hid (And.intro hbb hown8)
          clear hbb hb8 hown8
          go_wp2_with fail
          refine ⟨HT.out.1, ?_⟩
          refine held_one 12 (by kernel_rfl) ?_
          simp only [pick, List.getD_cons_zero, List.getD_cons_succ]
          go_wp2_with fail
          refine ⟨HT.out.1, ?_⟩
          refine wpAnyH_done (by kernel_rfl) ?_ _
          go_wp2_with fail
          exact ⟨⟨1, hlt, rfl, HT.out.2, HT.out.1⟩, by show n - 1 < n - 0; omega⟩
      · rw [hsl] at hv h1
        subst hv
        have HR := Lib.hid (And.intro hrow (And.intro hb hgl))
        clear hown hcur hfr hrow hb hgl hg
        go_wp2_with fail
        go_loopw [5] (fun kv wr => ∃ k : Nat, k ≤ i ∧ kv = .int .i64 k ∧ (∀ j, j < k → (L.getD j default).id < x.id) ∧ Below w2.heap.size w2 wr) (fun kv _ => i - (intOf kv).toNat)
        case atStart => exact ⟨0, Nat.zero_le _, rfl, fun j hj => by omega, Below.refl _ _⟩
        case round =>
          obtain ⟨k, hk, rfl, hless, hb3⟩ := hrel
          have hrow3 := HR.out.1.below hb3
          have hbw3 := bcall HR.out.2.1 (Nat.le_refl _) hb3
          have hg3 : g < wr.heap.size := by have := HR.out.2.2; have := hb3.size; omega
          have hkc : k ≤ cap := by omega
          have HK := Lib.hid (And.intro hrow3 (And.intro hbw3 (And.intro hless hg3)))
          have HB3 := Lib.hid hb3
          obtain ⟨z0, z1, z2, z3, z4⟩ := HX.out _ hbw3.drew
          have hd := (Below.refl wr.heap.size wr).drew
          by_cases hkt : k < i
          · have hki : ((k : Int) < (i : Int)) = True := by simp; omega
            have hwk := wrapS hkt (by omega)
            have y0 := (hrow3.below hd).get k (by rw [hsl]; exact hkt) 0 (by decide)
            simp only [RIf, Nat.add_zero, Nat.zero_add, List.getElem?_cons_zero] at y0
            obtain ⟨y, hy⟩ : ∃ y, L.getD k default = y := ⟨_, rfl⟩
            rw [hy] at y0
            clear hrow3 hbw3 hg3 hless hb3 hd
            by_cases hyx : y.id < x.id
            · have hyt : (y.id < x.id) = True := by simp [hyx]
              go_wp2_with fail
              refine wp_region_heldP (fun w' => w' = wr.drew) (by kernel_rfl) ?_
              refine held_reads [0, 1, 2, 3, 4, 5, 6, 7, 8, 9, 10, 11, 12, 13, 14, 15, 16] (g := 0) rfl (by kernel_rfl) rfl (fun _ _ d _ _ h => by cases d <;> exact h) ?_
              simp only [pick, List.getD_cons_zero, List.getD_cons_succ]
              iterate 17 ((with_reducible refine wpRead_step (fun K hK => ?_)); go_simp; first | (rw [if_neg (by decide)]; (with_reducible refine hK _ ?_); clear hK K) | ((with_reducible refine hK _ ?_); clear hK K) | (apply Exists.intro; (with_reducible refine ⟨fun w' hw' => ?_, hK _ ?_⟩); (subst hw'; go_simp; first | exact rfl | exact ⟨rfl, rfl⟩); clear hK K))
              with_reducible refine wpRead_nil ?_
              refine wpAnyH_done (by kernel_rfl) ?_ _
              go_wp2_with fail
              exact ⟨⟨k + 1, hkt, by first | rw [hwk] | rw [Int.natCast_succ], fun j hj => by
                rcases Nat.lt_succ_iff_lt_or_eq.1 hj with h | rfl
                · exact HK.out.2.2.1 j h
                · rw [hy]; exact hyx, HB3.out.drew⟩, by first | (rw [hwk]; exact mSucc hkt) | (rw [← Int.natCast_succ]; exact mSucc hkt)⟩
            · have hyt : (y.id < x.id) = False := by simp; omega
              go_wp2_with fail
              refine wp_region_heldP (fun w' => w' = wr.drew) (by kernel_rfl) ?_
              refine held_reads [0, 1, 2, 3, 4, 5, 6, 7, 8, 9, 10, 11, 12, 13, 14, 15, 16] (g := 0) rfl (by kernel_rfl) rfl (fun _ _ d _ _ h => by cases d <;> exact h) ?_
              simp only [pick, List.getD_cons_zero, List.getD_cons_succ]
              iterate 17 ((with_reducible refine wpRead_step (fun K hK => ?_)); go_simp; first | (rw [if_neg (by decide)]; (with_reducible refine hK _ ?_); clear hK K) | ((with_reducible refine hK _ ?_); clear hK K) | (apply Exists.intro; (with_reducible refine ⟨fun w' hw' => ?_, hK _ ?_⟩); (subst hw'; go_simp; first | exact rfl | exact ⟨rfl, rfl⟩); clear hK K))
              with_reducible refine wpRead_nil ?_
              refine wpAnyH_done (by kernel_rfl) ?_ _
              go_wp2_with (at_builtin; refine halt ?_)
              refine Halted.go ?_
              have hd := (Below.refl wr.heap.size wr).drew
              have hb0 := hd.alloc (Nat.le_refl _) (.cells #[] 83)
              generalize hsa : (some ⟨g, k * 5, none⟩ : Option Addr) = sa
              have hs1 : RIf.Sl (wr.drew.alloc (.cells #[] 83)) sa (i - k) (cap - k) (L.drop k) := ⟨by rw [List.length_drop, hsl], by unfold maxLen; omega, fun h0 => ⟨g, k * 5, hsa.symm, by have := (HK.out.1.below hb0).drop k; rw [Nat.zero_add] at this; exact this⟩⟩
              have hs2 : RIf.Sl (wr.drew.alloc (.cells #[] 83)) (some ⟨g, 0, none⟩) k k (L.take k) := ⟨by rw [List.length_take, hsl]; omega, by unfold maxLen; omega, fun _ => ⟨g, 0, rfl, (HK.out.1.below hb0).take k⟩⟩
              have hsn : sa = none → cap - k = 0 := fun e => by rw [e] at hsa; cases hsa
              have hbw := bcall HK.out.2.1 (Nat.le_refl _) hb0
              have hemp : RIf.Own (wr.drew.alloc (.cells #[] 83)) w.heap.size (.slice (some ⟨wr.heap.size, 0, none⟩) 0 0) ([] : List If) := Rep.own_empty (hnew wr.drew _) HK.out.2.1.size
              have HA := Lib.hid (And.intro hs1 (And.intro hs2 (And.intro hsn (And.intro hbw hemp))))
              clear hs1 hs2 hsn hbw hsa hd hb0 hemp
              refine Rep.append_list T23 rfl _ _ rfl (L := []) (M := L.drop k) rfl HA.out.2.2.2.2 rfl HA.out.1 HA.out.2.2.1 (by rw [List.length_nil]; unfold maxLen; omega) (by rw [List.length_nil]; omega) HA.out.2.2.2.1.size ?_
              intro v6 Wt hown6 hb6 hgr
              have hs2' : RIf.Sl Wt (some ⟨g, 0, none⟩) k k (L.take k) := ⟨HA.out.2.1.len, HA.out.2.1.max, fun h0 => by
                obtain ⟨b, o, e, hr⟩ := HA.out.2.1.row h0
                cases e
                exact ⟨g, 0, rfl, hr.keep (hgr.block g hr.lt (fun e => by injection e with e; have := HK.out.2.2.2; dsimp only at e; omega))⟩⟩
              obtain ⟨a6, c6, rfl, hsl6, hn6⟩ := hown6.sl0
              rw [List.nil_append] at hsl6 ⊢
              rw [List.length_drop, hsl] at hsl6 ⊢
              have HT := Lib.hid (And.intro (HA.out.2.2.2.1.trans hb6) (And.intro hsl6 (And.intro hn6 hs2')))
              have hcut := insI_cut (out := L) (x := x) (k := k) HK.out.2.2.1 (.inr ⟨by omega, by rw [hy]; exact Int.not_lt.2 hyx⟩)
              clear hown6 hb6 hgr hs2' hsl6 hn6 HA HK
              go_wp2_with fail
              refine wp_region_heldP (Below w.heap.size w) (by kernel_rfl) ?_
              refine held_reads [0, 1, 2, 3, 4, 5, 6, 7, 10] (g := 4) rfl (by kernel_rfl) HT.out.1.drew (fun _ _ d _ _ h => by cases d <;> exact h) ?_
              simp only [pick, List.getD_cons_zero, List.getD_cons_succ]
              iterate 9 ((with_reducible refine wpRead_step (fun K hK => ?_)); go_simp; first | ((with_reducible refine hK _ ?_); clear hK K) | (apply Exists.intro; (with_reducible refine ⟨fun w' hw' => ?_, hK _ ?_⟩); (obtain ⟨f0, f1, f2, f3, f4⟩ := HX.out _ hw'; go_simp; first | exact rfl | exact ⟨rfl, rfl⟩); clear hK K))
              with_reducible refine wpRead_nil ?_
              have hd := (Below.refl Wt.heap.size Wt).drew
              have HT := Lib.hid (And.intro (bcall HT.out.1 (Nat.le_refl _) hd) (And.intro (HT.out.2.1.keep hd) (And.intro HT.out.2.2.1 (HT.out.2.2.2.keep hd))))
              clear hd
              generalize Wt.drew = W5 at *
              refine held_one 8 (by kernel_rfl) ?_
              simp only [pick, List.getD_cons_zero, List.getD_cons_succ]
              go_wp2_with fail
              have hal := (Below.refl W5.heap.size W5).alloc (Nat.le_refl _) (.cells #[.int .i64 x.id, .int .i64 x.r, .int .u32 (x.ad : Int), .int .i64 x.ln, .int .i64 x.cp] 83)
              have hone : RIf.Sl (W5.alloc (.cells #[.int .i64 x.id, .int .i64 x.r, .int .u32 (x.ad : Int), .int .i64 x.ln, .int .i64 x.cp] 83)) (some ⟨W5.heap.size, 0, none⟩) 1 1 [x] := Rep.sl_one (R := RIf) (y := x) (hnew _ _)
              have HT := Lib.hid (And.intro (bcall HT.out.1 (Nat.le_refl _) hal) (And.intro (HT.out.2.1.keep hal) (And.intro HT.out.2.2.1 (And.intro (HT.out.2.2.2.keep hal) hone))))
              clear hal hone
              generalize W5.alloc (.cells #[.int .i64 x.id, .int .i64 x.r, .int .u32 (x.ad : Int), .int .i64 x.ln, .int .i64 x.cp] 83) = W6 at *
              generalize W5.heap.size = q5 at *
              refine ⟨HT.out.1, ?_⟩
              refine held_one 9 (by kernel_rfl) ?_
              simp only [pick, List.getD_cons_zero, List.getD_cons_succ]
              go_wp2_with (at_builtin; refine halt ?_)
              refine Halted.go ?_
              refine Rep.append_cut T23 rfl _ _ rfl rfl HT.out.2.2.2.1 rfl HT.out.2.2.2.2 (by omega) (by unfold maxLen; omega) (by omega) ?_
              intro v7 W7 hown7 hb7
              have hbb := bcall HT.out.1 (Nat.le_refl _) hb7
              have HT := Lib.hid (And.intro hbb (And.intro (HT.out.2.1.keep hb7) (And.intro HT.out.2.2.1 (hown7.mono HT.out.1.size))))
              clear hbb hb7 hown7
              go_wp2_with fail
              refine ⟨HT.out.1, ?_⟩
              refine held_one 11 (by kernel_rfl) ?_
              simp only [pick, List.getD_cons_zero, List.getD_cons_succ]
              go_wp2_with (at_builtin; refine halt ?_)
              refine Halted.go ?_
              refine Rep.append_list T23 rfl _ _ rfl rfl HT.out.2.2.2 rfl HT.out.2.1 HT.out.2.2.1 (by rw [List.length_append, List.length_take, List.length_singleton, hsl]; unfold maxLen; omega) (by rw [List.length_append, List.length_take, List.length_singleton, hsl]; omega) HT.out.1.size ?_
              intro v8 W8 hown8 hb8 _
              have hbb := HT.out.1.trans hb8
              rw [hcut, ← t1] at hown8
              have HT := Lib.hid (And.intro hbb hown8)
              clear hbb hb8 hown8
              go_wp2_with fail
              refine ⟨HT.out.1, ?_⟩
              refine held_one 12 (by kernel_rfl) ?_
              simp only [pick, List.getD_cons_zero, List.getD_cons_succ]
              go_wp2_with fail
              refine ⟨HT.out.1, ?_⟩
              refine wpAnyH_done (by kernel_rfl) ?_ _
              go_wp2_with fail
              exact ⟨⟨i + 1, hlt, by first | rw [hw3] | rw [Int.natCast_succ], HT.out.2, HT.out.1⟩, by first | (rw [hw3]; exact mSucc hlt) | (rw [← Int.natCast_succ]; exact mSucc hlt)⟩
          · obtain rfl : i = k := by omega
            have hki : ((i : Int) < (i : Int)) = False := by simp
            clear hrow3 hbw3 hg3 hless hb3 hd
            have hdn : L.drop i = [] := List.drop_eq_nil_of_le (by omega)
            by_cases hci : cap = i
            · subst hci
              go_wp2_with fail
              refine wp_region_heldP (fun w' => w' = wr.drew) (by kernel_rfl) ?_
              refine held_reads [0, 1, 2, 3, 4, 5, 6, 7, 8, 9, 10, 11, 12, 13, 14, 15, 16] (g := 0) rfl (by kernel_rfl) rfl (fun _ _ d _ _ h => by cases d <;> exact h) ?_
              simp only [pick, List.getD_cons_zero, List.getD_cons_succ]
              iterate 17 ((with_reducible refine wpRead_step (fun K hK => ?_)); go_simp; first | (rw [if_neg (by decide)]; (with_reducible refine hK _ ?_); clear hK K) | ((with_reducible refine hK _ ?_); clear hK K) | (apply Exists.intro; (with_reducible refine ⟨fun w' hw' => ?_, hK _ ?_⟩); (subst hw'; go_simp; first | exact rfl | exact ⟨rfl, rfl⟩); clear hK K))
              with_reducible refine wpRead_nil ?_
              refine wpAnyH_done (by kernel_rfl) ?_ _
              go_wp2_with (at_builtin; refine halt ?_)
              refine Halted.go ?_
              have hd := (Below.refl wr.heap.size wr).drew
              have hb0 := hd.alloc (Nat.le_refl _) (.cells #[] 83)
              have hs1 : RIf.Sl (wr.drew.alloc (.cells #[] 83)) (some ⟨g, 0, none⟩) 0 0 (L.drop cap) := by rw [hdn]; exact Rep.sl_nil
              have hs2 : RIf.Sl (wr.drew.alloc (.cells #[] 83)) (some ⟨g, 0, none⟩) cap cap (L.take cap) := ⟨by rw [List.length_take, hsl]; omega, by unfold maxLen; omega, fun _ => ⟨g, 0, rfl, (HK.out.1.below hb0).take cap⟩⟩
              have hsn : ((some ⟨g, 0, none⟩) : Option Addr) = none → 0 = 0 := fun e => by cases e
              have hbw := bcall HK.out.2.1 (Nat.le_refl _) hb0
              have hemp : RIf.Own (wr.drew.alloc (.cells #[] 83)) w.heap.size (.slice (some ⟨wr.heap.size, 0, none⟩) 0 0) ([] : List If) := Rep.own_empty (hnew wr.drew _) HK.out.2.1.size
              have HA := Lib.hid (And.intro hs1 (And.intro hs2 (And.intro hsn (And.intro hbw hemp))))
              clear hs1 hs2 hsn hbw hd hb0 hemp
              refine Rep.append_list T23 rfl _ _ rfl (L := []) (M := L.drop cap) rfl HA.out.2.2.2.2 rfl HA.out.1 HA.out.2.2.1 (by rw [List.length_nil]; unfold maxLen; omega) (by rw [List.length_nil]; omega) HA.out.2.2.2.1.size ?_
              intro v6 Wt hown6 hb6 hgr
              have hs2' : RIf.Sl Wt (some ⟨g, 0, none⟩) cap cap (L.take cap) := ⟨HA.out.2.1.len, HA.out.2.1.max, fun h0 => by
                obtain ⟨b, o, e, hr⟩ := HA.out.2.1.row h0
                cases e
                exact ⟨g, 0, rfl, hr.keep (hgr.block g hr.lt (fun e => by injection e with e; have := HK.out.2.2.2; dsimp only at e; omega))⟩⟩
              obtain ⟨a6, c6, rfl, hsl6, hn6⟩ := hown6.sl0
              rw [List.nil_append] at hsl6 ⊢
              rw [List.length_drop, hsl, Nat.sub_self] at hsl6 ⊢
              have HT := Lib.hid (And.intro (HA.out.2.2.2.1.trans hb6) (And.intro hsl6 (And.intro hn6 hs2')))
              have hcut := insI_cut (out := L) (x := x) (k := cap) HK.out.2.2.1 (.inl hsl.symm)
              clear hown6 hb6 hgr hs2' hsl6 hn6 HA HK
              go_wp2_with fail
              refine wp_region_heldP (Below w.heap.size w) (by kernel_rfl) ?_
              refine held_reads [0, 1, 2, 3, 4, 5, 6, 7, 10] (g := 4) rfl (by kernel_rfl) HT.out.1.drew (fun _ _ d _ _ h => by cases d <;> exact h) ?_
              simp only [pick, List.getD_cons_zero, List.getD_cons_succ]
              iterate 9 ((with_reducible refine wpRead_step (fun K hK => ?_)); go_simp; first | ((with_reducible refine hK _ ?_); clear hK K) | (apply Exists.intro; (with_reducible refine ⟨fun w' hw' => ?_, hK _ ?_⟩); (obtain ⟨f0, f1, f2, f3, f4⟩ := HX.out _ hw'; go_simp; first | exact rfl | exact ⟨rfl, rfl⟩); clear hK K))
              with_reducible refine wpRead_nil ?_
              have hd := (Below.refl Wt.heap.size Wt).drew
              have HT := Lib.hid (And.intro (bcall HT.out.1 (Nat.le_refl _) hd) (And.intro (HT.out.2.1.keep hd) (And.intro HT.out.2.2.1 (HT.out.2.2.2.keep hd))))
              clear hd
              generalize Wt.drew = W5 at *
              refine held_one 8 (by kernel_rfl) ?_
              simp only [pick, List.getD_cons_zero, List.getD_cons_succ]
              go_wp2_with fail
              have hal := (Below.refl W5.heap.size W5).alloc (Nat.le_refl _) (.cells #[.int .i64 x.id, .int .i64 x.r, .int .u32 (x.ad : Int), .int .i64 x.ln, .int .i64 x.cp] 83)
              have hone : RIf.Sl (W5.alloc (.cells #[.int .i64 x.id, .int .i64 x.r, .int .u32 (x.ad : Int), .int .i64 x.ln, .int .i64 x.cp] 83)) (some ⟨W5.heap.size, 0, none⟩) 1 1 [x] := Rep.sl_one (R := RIf) (y := x) (hnew _ _)
              have HT := Lib.hid (And.intro (bcall HT.out.1 (Nat.le_refl _) hal) (And.intro (HT.out.2.1.keep hal) (And.intro HT.out.2.2.1 (And.intro (HT.out.2.2.2.keep hal) hone))))
              clear hal hone
              generalize W5.alloc (.cells #[.int .i64 x.id, .int .i64 x.r, .int .u32 (x.ad : Int), .int .i64 x.ln, .int .i64 x.cp] 83) = W6 at *
              generalize W5.heap.size = q5 at *
              refine ⟨HT.out.1, ?_⟩
              refine held_one 9 (by kernel_rfl) ?_
              simp only [pick, List.getD_cons_zero, List.getD_cons_succ]
              go_wp2_with (at_builtin; refine halt ?_)
              refine Halted.go ?_
              refine Rep.append_cut T23 rfl _ _ rfl rfl HT.out.2.2.2.1 rfl HT.out.2.2.2.2 (by omega) (by unfold maxLen; omega) (by omega) ?_
              intro v7 W7 hown7 hb7
              have hbb := bcall HT.out.1 (Nat.le_refl _) hb7
              have HT := Lib.hid (And.intro hbb (And.intro (HT.out.2.1.keep hb7) (And.intro HT.out.2.2.1 (hown7.mono HT.out.1.size))))
              clear hbb hb7 hown7
              go_wp2_with fail
              refine ⟨HT.out.1, ?_⟩
              refine held_one 11 (by kernel_rfl) ?_
              simp only [pick, List.getD_cons_zero, List.getD_cons_succ]
              go_wp2_with (at_builtin; refine halt ?_)
              refine Halted.go ?_
              refine Rep.append_list T23 rfl _ _ rfl rfl HT.out.2.2.2 rfl HT.out.2.1 HT.out.2.2.1 (by rw [List.length_append, List.length_take, List.length_singleton, hsl]; unfold maxLen; omega) (by rw [List.length_append, List.length_take, List.length_singleton, hsl]; omega) HT.out.1.size ?_
              intro v8 W8 hown8 hb8 _
              have hbb := HT.out.1.trans hb8
              rw [hcut, ← t1] at hown8
              have HT := Lib.hid (And.intro hbb hown8)
              clear hbb hb8 hown8
              go_wp2_with fail
              refine ⟨HT.out.1, ?_⟩
              refine held_one 12 (by kernel_rfl) ?_
              simp only [pick, List.getD_cons_zero, List.getD_cons_succ]
              go_wp2_with fail
              refine ⟨HT.out.1, ?_⟩
              refine wpAnyH_done (by kernel_rfl) ?_ _
              go_wp2_with fail
              exact ⟨⟨cap + 1, hlt, by first | rw [hw3] | rw [Int.natCast_succ], HT.out.2, HT.out.1⟩, by first | (rw [hw3]; exact mSucc hlt) | (rw [← Int.natCast_succ]; exact mSucc hlt)⟩
            · have hci2 : i < cap := by omega
              go_wp2_with fail
              refine wp_region_heldP (fun w' => w' = wr.drew) (by kernel_rfl) ?_
              refine held_reads [0, 1, 2, 3, 4, 5, 6, 7, 8, 9, 10, 11, 12, 13, 14, 15, 16] (g := 0) rfl (by kernel_rfl) rfl (fun _ _ d _ _ h => by cases d <;> exact h) ?_
              simp only [pick, List.getD_cons_zero, List.getD_cons_succ]
              iterate 17 ((with_reducible refine wpRead_step (fun K hK => ?_)); go_simp; first | (rw [if_neg (by decide)]; (with_reducible refine hK _ ?_); clear hK K) | ((with_reducible refine hK _ ?_); clear hK K) | (apply Exists.intro; (with_reducible refine ⟨fun w' hw' => ?_, hK _ ?_⟩); (subst hw'; go_simp; first | exact rfl | exact ⟨rfl, rfl⟩); clear hK K))
              with_reducible refine wpRead_nil ?_
              refine wpAnyH_done (by kernel_rfl) ?_ _
              go_wp2_with (at_builtin; refine halt ?_)
              refine Halted.go ?_
              have hd := (Below.refl wr.heap.size wr).drew
              have hb0 := hd.alloc (Nat.le_refl _) (.cells #[] 83)
              have hs1 : RIf.Sl (wr.drew.alloc (.cells #[] 83)) (some ⟨g, i * 5, none⟩) 0 (cap - i) (L.drop i) := by rw [hdn]; exact Rep.sl_nil
              have hs2 : RIf.Sl (wr.drew.alloc (.cells #[] 83)) (some ⟨g, 0, none⟩) i i (L.take i) := ⟨by rw [List.length_take, hsl]; omega, by unfold maxLen; omega, fun _ => ⟨g, 0, rfl, (HK.out.1.below hb0).take i⟩⟩
              have hsn : ((some ⟨g, i * 5, none⟩) : Option Addr) = none → (cap - i) = 0 := fun e => by cases e
              have hbw := bcall HK.out.2.1 (Nat.le_refl _) hb0
              have hemp : RIf.Own (wr.drew.alloc (.cells #[] 83)) w.heap.size (.slice (some ⟨wr.heap.size, 0, none⟩) 0 0) ([] : List If) := Rep.own_empty (hnew wr.drew _) HK.out.2.1.size
              have HA := Lib.hid (And.intro hs1 (And.intro hs2 (And.intro hsn (And.intro hbw hemp))))
              clear hs1 hs2 hsn hbw hd hb0 hemp
              refine Rep.append_list T23 rfl _ _ rfl (L := []) (M := L.drop i) rfl HA.out.2.2.2.2 rfl HA.out.1 HA.out.2.2.1 (by rw [List.length_nil]; unfold maxLen; omega) (by rw [List.length_nil]; omega) HA.out.2.2.2.1.size ?_
              intro v6 Wt hown6 hb6 hgr
              have hs2' : RIf.Sl Wt (some ⟨g, 0, none⟩) i i (L.take i) := ⟨HA.out.2.1.len, HA.out.2.1.max, fun h0 => by
                obtain ⟨b, o, e, hr⟩ := HA.out.2.1.row h0
                cases e
                exact ⟨g, 0, rfl, hr.keep (hgr.block g hr.lt (fun e => by injection e with e; have := HK.out.2.2.2; dsimp only at e; omega))⟩⟩
              obtain ⟨a6, c6, rfl, hsl6, hn6⟩ := hown6.sl0
              rw [List.nil_append] at hsl6 ⊢
              rw [List.length_drop, hsl, Nat.sub_self] at hsl6 ⊢
              have HT := Lib.hid (And.intro (HA.out.2.2.2.1.trans hb6) (And.intro hsl6 (And.intro hn6 hs2')))
              have hcut := insI_cut (out := L) (x := x) (k := i) HK.out.2.2.1 (.inl hsl.symm)
              clear hown6 hb6 hgr hs2' hsl6 hn6 HA HK
              go_wp2_with fail
              refine wp_region_heldP (Below w.heap.size w) (by kernel_rfl) ?_
              refine held_reads [0, 1, 2, 3, 4, 5, 6, 7, 10] (g := 4) rfl (by kernel_rfl) HT.out.1.drew (fun _ _ d _ _ h => by cases d <;> exact h) ?_
              simp only [pick, List.getD_cons_zero, List.getD_cons_succ]
              iterate 9 ((with_reducible refine wpRead_step (fun K hK => ?_)); go_simp; first | ((with_reducible refine hK _ ?_); clear hK K) | (apply Exists.intro; (with_reducible refine ⟨fun w' hw' => ?_, hK _ ?_⟩); (obtain ⟨f0, f1, f2, f3, f4⟩ := HX.out _ hw'; go_simp; first | exact rfl | exact ⟨rfl, rfl⟩); clear hK K))
              with_reducible refine wpRead_nil ?_
              have hd := (Below.refl Wt.heap.size Wt).drew
              have HT := Lib.hid (And.intro (bcall HT.out.1 (Nat.le_refl _) hd) (And.intro (HT.out.2.1.keep hd) (And.intro HT.out.2.2.1 (HT.out.2.2.2.keep hd))))
              clear hd
              generalize Wt.drew = W5 at *
              refine held_one 8 (by kernel_rfl) ?_
              simp only [pick, List.getD_cons_zero, List.getD_cons_succ]
              go_wp2_with fail
              have hal := (Below.refl W5.heap.size W5).alloc (Nat.le_refl _) (.cells #[.int .i64 x.id, .int .i64 x.r, .int .u32 (x.ad : Int), .int .i64 x.ln, .int .i64 x.cp] 83)
              have hone : RIf.Sl (W5.alloc (.cells #[.int .i64 x.id, .int .i64 x.r, .int .u32 (x.ad : Int), .int .i64 x.ln, .int .i64 x.cp] 83)) (some ⟨W5.heap.size, 0, none⟩) 1 1 [x] := Rep.sl_one (R := RIf) (y := x) (hnew _ _)
              have HT := Lib.hid (And.intro (bcall HT.out.1 (Nat.le_refl _) hal) (And.intro (HT.out.2.1.keep hal) (And.intro HT.out.2.2.1 (And.intro (HT.out.2.2.2.keep hal) hone))))
              clear hal hone
              generalize W5.alloc (.cells #[.int .i64 x.id, .int .i64 x.r, .int .u32 (x.ad : Int), .int .i64 x.ln, .int .i64 x.cp] 83) = W6 at *
              generalize W5.heap.size = q5 at *
              refine ⟨HT.out.1, ?_⟩
              refine held_one 9 (by kernel_rfl) ?_
              simp only [pick, List.getD_cons_zero, List.getD_cons_succ]
              go_wp2_with (at_builtin; refine halt ?_)
              refine Halted.go ?_
              refine Rep.append_cut T23 rfl _ _ rfl rfl HT.out.2.2.2.1 rfl HT.out.2.2.2.2 (by omega) (by unfold maxLen; omega) (by omega) ?_
              intro v7 W7 hown7 hb7
              have hbb := bcall HT.out.1 (Nat.le_refl _) hb7
              have HT := Lib.hid (And.intro hbb (And.intro (HT.out.2.1.keep hb7) (And.intro HT.out.2.2.1 (hown7.mono HT.out.1.size))))
              clear hbb hb7 hown7
              go_wp2_with fail
              refine ⟨HT.out.1, ?_⟩
              refine held_one 11 (by kernel_rfl) ?_
              simp only [pick, List.getD_cons_zero, List.getD_cons_succ]
              go_wp2_with (at_builtin; refine halt ?_)
              refine Halted.go ?_
              refine Rep.append_list T23 rfl _ _ rfl rfl HT.out.2.2.2 rfl HT.out.2.1 HT.out.2.2.1 (by rw [List.length_append, List.length_take, List.length_singleton, hsl]; unfold maxLen; omega) (by rw [List.length_append, List.length_take, List.length_singleton, hsl]; omega) HT.out.1.size ?_
              intro v8 W8 hown8 hb8 _
              have hbb := HT.out.1.trans hb8
              rw [hcut, ← t1] at hown8
              have HT := Lib.hid (And.intro hbb hown8)
              clear hbb hb8 hown8
              go_wp2_with fail
              refine ⟨HT.out.1, ?_⟩
              refine held_one 12 (by kernel_rfl) ?_
              simp only [pick, List.getD_cons_zero, List.getD_cons_succ]
              go_wp2_with fail
              refine ⟨HT.out.1, ?_⟩
              refine wpAnyH_done (by kernel_rfl) ?_ _
              go_wp2_with fail
              exact ⟨⟨i + 1, hlt, by first | rw [hw3] | rw [Int.natCast_succ], HT.out.2, HT.out.1⟩, by first | (rw [hw3]; exact mSucc hlt) | (rw [← Int.natCast_succ]; exact mSucc hlt)⟩
    · obtain rfl : n = i := by omega
      have hil : ((n : Int) < (n : Int)) = False := by simp
      rw [List.take_of_length_le (by rw [HL.out]; exact Nat.le_refl _)] at hown
      have HB := Lib.hid (And.intro hown hb)
      clear hb hown
      go_wp2_with fail
      go_ret
      exact ⟨_, rfl, HB.out⟩
end Go.Proofs.Ytgainkgbodmciaa
/- A region that draws its order, in which things are read ahead of one operation t that writes what was read. -/
namespace Go.Proofs.Ytgainkgbodmciaa
open Go Go.RowKit

section
variable {P : Program} {ops : Array Oper} {md : Region.Mode} {S : World → Prop}

/-- whatever order is picked: S holds behind every operation but t -/
def wpAnyT (P : Program) (md : Region.Mode) (ops : Array Oper) (Q : Exit → Act → World → Prop) (t : Nat) (S : World → Prop) : Nat → Array Bool → Act → World → Prop
  | 0, l0, a, w => Region.ready md ops l0 = [] ∧ Q .normal a w
  | f + 1, l0, a, w => (Region.ready md ops l0 = [] → Q .normal a w) ∧ ∀ j ∈ Region.ready md ops l0, wpOp P ops Q j (fun a' w' => (j ≠ t → S w') ∧ wpAnyT P md ops Q t S f (l0.setIfInBounds j true) a' w') a w
theorem any_of_T {Q : Exit → Act → World → Prop} {t : Nat} : ∀ (f : Nat) (l0 : Array Bool) (a : Act) (w : World), wpAnyT P md ops Q t S f l0 a w → wpAny P md ops Q f l0 a w
  | 0, _, _, _, h => h
  | f + 1, _, _, _, h => ⟨h.1, fun j hj => wpOp_mono (fun a' w' h' => any_of_T f _ a' w' h'.2) (h.2 j hj)⟩
theorem T_first {Q : Exit → Act → World → Prop} {t i : Nat} {oi : Oper} {v : Value} {l0 : Array Bool} (hi : ops[i]? = some oi) (hsel : ∀ (j : Nat) (o : Oper) cs b, ops[j]? = some o → o.op ≠ .select cs b) (hQ : ∀ c (a : Act) w, Q (.panic c) (a.put oi.dst v) w → Q (.panic c) a w) (hit : i ∈ ancs md ops t) (f : Nat) :
    ∀ (listed : Array Bool) (a : Act) (w : World), SInv md ops l0 listed →
      (∀ j oj, ops[j]? = some oj → j ≠ i → listed.getD j true = false → (∀ e ∈ oj.after, Region.binds md e = true → e.on ≠ i) → oi.apart ops oj = true) →
      i ∈ Region.ready md ops listed → YieldsIf P ops S oi v a → S w → wpAnyT P md ops Q t S f (listed.setIfInBounds i true) (a.put oi.dst v) w → wpAnyT P md ops Q t S (f + 1) listed a w := by
  induction f with
  | zero =>
    intro listed a w inv _ hr hy hS H
    refine ⟨fun h => (by rw [h] at hr; cases hr), fun j hj => ?_⟩
    by_cases hji : j = i
    · subst hji; exact hy.wpOp hi hS ⟨fun _ => hS, H⟩
    · have h1 := ready_mono hj hji
      rw [H.1] at h1; cases h1
  | succ f ih =>
    intro listed a w inv hfree hr hy hS H
    refine ⟨fun h => (by rw [h] at hr; cases hr), fun j hj => ?_⟩
    have hun := (mem_ready.1 hr).1
    by_cases hji : j = i
    · subst hji; exact hy.wpOp hi hS ⟨fun _ => hS, H⟩
    obtain ⟨hjun, oj, hoj, hall⟩ := mem_ready.1 hj
    have hjt : j ≠ t := by
      rintro rfl
      have := inv.ancs hj i hit
      rw [getD_both hun] at this; cases this
    have hnot : ∀ e ∈ oj.after, Region.binds md e = true → e.on ≠ i := by
      intro e he hb heq
      have h1 := hall e he hb
      rw [heq, getD_both hun] at h1
      cases h1
    have h2 := wpOp_putIf hoj (hfree j oj hoj hji hjun hnot) (fun cs b => hsel i oi cs b hi) (fun cs b => hsel j oj cs b hoj) hQ hy (H.2 j (ready_mono hj hji))
    refine wpOp_mono (fun a' w' h3 => ⟨h3.2.1, ih (listed.setIfInBounds j true) a' w' (inv.set hj) ?_ (ready_mono hr (Ne.symm hji)) h3.1 (h3.2.1 hjt) ?_⟩) h2
    · intro k ok hk hki hun' hno
      refine hfree k ok hk hki ?_ hno
      by_cases hjk : j = k
      · subst hjk; exact hjun
      · rw [getD_set_ne true hjk] at hun'; exact hun'
    · rw [Array.setIfInBounds_comm _ _ hji]; exact h3.2.2
def readsB (md : Region.Mode) (ops : Array Oper) (t : Nat) (hd : List Nat) (l0 : Array Bool) : Bool := Region.noSelect ops && closedB md ops l0 && hd.all (fun i => (ancs md ops t).contains i) && pureS md ops hd l0
theorem readsT_go {Q : Exit → Act → World → Prop} {t g : Nat} {w : World} (hsel : Region.noSelect ops = true) (hS : S w) (hQ : ∀ c (a : Act) d v w, Q (.panic c) (a.put d v) w → Q (.panic c) a w) {l1 : Array Bool} : ∀ (hd : List Nat) (l0 : Array Bool) (a : Act), SInv md ops l1 l0 → (∀ i ∈ hd, i ∈ ancs md ops t) → pureS md ops hd l0 = true → wpRead P ops S (fun a' => wpAnyT P md ops Q t S g (setAll hd l0) a' w) (pick ops.toList hd) a → wpAnyT P md ops Q t S (hd.length + g) l0 a w
  | [], l0, a, _, _, _, h => by rw [List.length_nil, Nat.zero_add]; exact h
  | i :: r, l0, a, inv, ht, hB, h => by
    simp only [pureS, Bool.and_eq_true] at hB
    obtain ⟨⟨hr, hf⟩, hB'⟩ := hB
    have hr' : i ∈ Region.ready md ops l0 := by simpa using hr
    obtain ⟨o, ho⟩ := ready_lt (md := md) (ops := ops) (listed := l0) (i := i) hr'
    have hp : pick ops.toList (i :: r) = o :: pick ops.toList r := by simp [pick, List.getD_eq_getElem?_getD, ho]
    rw [hp] at h
    rw [List.length_cons, Nat.succ_add]
    unfold wpRead at h
    by_cases hw : Region.wanted o (yielded ops a.tmps) = true
    · rw [if_pos hw] at h
      obtain ⟨v, hv, hrest⟩ := h
      exact T_first ho (Region.noSelect_spec hsel) (fun c a w => hQ c a _ _ w) (ht i (by simp)) _ l0 a w inv (Region.free_spec ho hf) hr' (.inl ⟨hw, hv⟩) hS (readsT_go hsel hS hQ r _ _ (inv.set hr') (fun j hj => ht j (by simp [hj])) hB' hrest)
    · rw [if_neg hw] at h
      exact T_first ho (Region.noSelect_spec hsel) (fun c a w => hQ c a _ _ w) (ht i (by simp)) _ l0 a w inv (Region.free_spec ho hf) hr' (.inr ⟨by simpa using hw, rfl⟩) hS (readsT_go hsel hS hQ r _ _ (inv.set hr') (fun j hj => ht j (by simp [hj])) hB' h)
/-- those that only read what S says may be taken first, if t waits for them -/
theorem T_reads {Q : Exit → Act → World → Prop} {t g n : Nat} (hd : List Nat) (hn : hd.length + g = n) {l0 : Array Bool} {a : Act} {w : World} (hB : readsB md ops t hd l0 = true) (hS : S w) (hQ : ∀ c (a : Act) d v w, Q (.panic c) (a.put d v) w → Q (.panic c) a w)
    (h : wpRead P ops S (fun a' => wpAnyT P md ops Q t S g (setAll hd l0) a' w) (pick ops.toList hd) a) : wpAnyT P md ops Q t S n l0 a w := by
  subst hn
  simp only [readsB, Bool.and_eq_true] at hB
  exact readsT_go hB.1.1.1 hS hQ hd l0 a (sinv_of hB.1.1.2) (fun i hi => by simpa using List.all_eq_true.1 hB.1.2 i hi) hB.2 h
/-- one that comes up alone -/
theorem T_one {Q : Exit → Act → World → Prop} {t g : Nat} (i : Nat) {l0 : Array Bool} {a : Act} {w : World} (hB : decide (Region.ready md ops l0 = [i]) = true)
    (h : wpList P ops (Exit.then (fun a' w' => (i ≠ t → S w') ∧ wpAnyT P md ops Q t S g (l0.setIfInBounds i true) a' w') Q) (pick ops.toList [i]) a w) : wpAnyT P md ops Q t S (g + 1) l0 a w := by
  have hr : Region.ready md ops l0 = [i] := by simpa using hB
  obtain ⟨o, ho⟩ := ready_lt (md := md) (ops := ops) (listed := l0) (i := i) (by rw [hr]; simp)
  refine ⟨fun h0 => (by rw [h0] at hr; cases hr), ?_⟩
  rw [hr]
  intro j hj
  obtain rfl : j = i := by simpa using hj
  have hp : pick ops.toList [j] = [o] := by simp [pick, List.getD_eq_getElem?_getD, ho]
  rw [hp] at h
  unfold wpOp
  simp only [ho]
  unfold wpList at h
  by_cases hw : Region.wanted o (yielded ops a.tmps) = true
  · rw [if_pos hw] at h ⊢
    refine h.imp (fun h => wp_then (Oper.wp_mono (fun a' w' h' => h') h)) (fun h => ⟨h.1, let ⟨a, w, h⟩ := h.2; ⟨a, w, h⟩⟩)
  · rw [if_neg hw] at h ⊢
    exact h
theorem T_done {Q : Exit → Act → World → Prop} {t : Nat} {l0 : Array Bool} {a : Act} {w : World} (hr : Region.ready md ops l0 = []) (h : Q .normal a w) : ∀ f, wpAnyT P md ops Q t S f l0 a w
  | 0 => ⟨hr, h⟩
  | _ + 1 => ⟨fun _ => h, by rw [hr]; simp⟩
theorem wp_region_T {id : Nat} {Q : Exit → Act → World → Prop} {a : Act} {w : World} {l : List Oper} (t : Nat) (S : World → Prop) (hm : P.follows .mixedOrders = true)
    (h : wpAnyT P .any l.toArray Q t S l.length (Array.replicate l.length false) a w.drew) : (Code.region id l.toArray true).wp P Q a w := by
  refine wp_region_any hm ?_
  simpa using any_of_T _ _ _ _ h
end
end Go.Proofs.Ytgainkgbodmciaa
/- The reference's capa in memory; its New. -/
namespace Go.Proofs.Ytgainkgbodmciaa
open Go.RowKit

def RCy : Rep Cy := ⟨52, 3, by decide, fun x => [.int .i64 x.id, .int .i64 x.cp, .bool x.dr], fun _ => rfl, fun _ => rfl⟩
theorem T64 : Rep.Ty Try.prog 64 RCy 24 := Rep.Ty.mk' (z := .agg #[.int .i64 0, .int .i64 0, .bool false]) Try.underlying64 (by kernel_rfl) rfl
def cy0 (x : If) : Cy := ⟨x.id, x.cp, false⟩
/-- its block -/
structure RefX (w : World) (base x : Nat) (v : Value) : Prop where
  lt : x < base
  out : ∃ cs, w.heap[x]? = some (.cells cs 108 (0, 0)) ∧ cs.size = 33 ∧ cs[0]? = some v ∧ (∀ j, 1 ≤ j → j < 33 → ∃ s, cs[j]? = some (.int .i64 s))
theorem RefX.on {w w' : World} {base x : Nat} {v : Value} (H : RefX w base x v) (h : w'.heap[x]? = w.heap[x]?) : RefX w' base x v := by
  obtain ⟨cs, h1, h2⟩ := H.out
  exact ⟨H.lt, cs, h.trans h1, h2⟩
/-- the reference's capa -/
structure RefB (w : World) (base x : Nat) (L : List Cy) : Prop where
  lt : x < base
  out : ∃ cs v, w.heap[x]? = some (.cells cs 108 (0, 0)) ∧ cs.size = 33 ∧ cs[0]? = some v ∧ (∀ j, 1 ≤ j → j < 33 → ∃ s, cs[j]? = some (.int .i64 s)) ∧ RCy.Own w base v L
theorem RefB.keep {w w' : World} {base x : Nat} {L : List Cy} (H : RefB w base x L) (hb : Below w.heap.size w w') : RefB w' base x L := by
  obtain ⟨cs, v, h1, h2, h3, h4, h5⟩ := H.out
  exact ⟨H.lt, cs, v, (hb.block _ (lt_of_blk h1)).trans h1, h2, h3, h4, h5.below hb⟩
theorem RefB.setInt {w w' : World} {base x : Nat} {L : List Cy} (H : RefB w base x L) {j : Nat} (h1 : 1 ≤ j) {s : Int} (hw : w' = w.setCell ⟨x, j, none⟩ (.int .i64 s)) : RefB w' base x L ∧ But w w' [x] := by
  subst hw
  obtain ⟨cs, v, c1, c2, c3, c4, c5⟩ := H.out
  have hs := (SetB.self c1).store (o := j) (lt_of_blk c1) (.int .i64 s)
  refine ⟨⟨H.lt, cs.setIfInBounds j (.int .i64 s), v, hs.at (lt_of_blk c1), by simpa using c2, ?_, fun k h3 h4 => ?_, ?_⟩, But.of_set hs (by simp)⟩
  · rw [Array.getElem?_setIfInBounds, if_neg (by omega)]; exact c3
  · rw [Array.getElem?_setIfInBounds]
    by_cases e : j = k
    · subst e; rw [if_pos rfl, if_pos (by omega)]; exact ⟨s, rfl⟩
    · rw [if_neg e]; exact c4 k h3 h4
  · refine c5.keep fun b hb => hs.other fun e => ?_
    subst e
    rcases c5.cases with ⟨rfl, -⟩ | ⟨g, cap, rfl, hg, -⟩
    · cases hb
    · injection hb with hb; have := H.lt; dsimp only at hb; omega
theorem RefX.setL {w w' : World} {base x : Nat} {M : List Cy} {v0 : Value} (H : RefX w base x v0) {v : Value} (hv : RCy.Own w base v M) (hw : w' = w.setCell ⟨x, 0, none⟩ v) : RefB w' base x M ∧ But w w' [x] := by
  subst hw
  obtain ⟨cs, c1, c2, c3, c4⟩ := H.out
  have hs := (SetB.self c1).store (o := 0) (lt_of_blk c1) v
  refine ⟨⟨H.lt, cs.setIfInBounds 0 v, v, hs.at (lt_of_blk c1), by simpa using c2, ?_, fun k h3 h4 => ?_, ?_⟩, But.of_set hs (by simp)⟩
  · rw [Array.getElem?_setIfInBounds, if_pos rfl, if_pos (by omega)]
  · rw [Array.getElem?_setIfInBounds, if_neg (by omega)]
    exact c4 k h3 h4
  · refine hv.keep fun b hb => hs.other fun e => ?_
    subst e
    rcases hv.cases with ⟨rfl, -⟩ | ⟨g, cap, rfl, hg, -⟩
    · cases hb
    · injection hb with hb; have := H.lt; dsimp only at hb; omega
def RnS (x : Nat) (v : Value) (b o : Nat) (y : If) (w : World) : Prop := w.cell? ⟨x, 0, none⟩ = some v ∧ w.frozen? ⟨x, 0, none⟩ = false ∧ w.cell? ⟨b, o, none⟩ = some (.int .i64 y.id) ∧ w.cell? ⟨b, o + 4, none⟩ = some (.int .i64 y.cp)
theorem RnS.on {x : Nat} {v : Value} {b o : Nat} {y : If} {w w' : World} (H : RnS x v b o y w) (h1 : w'.heap[x]? = w.heap[x]?) (h2 : w'.heap[b]? = w.heap[b]?) : RnS x v b o y w' :=
  ⟨(cell_same h1).trans H.1, (World.frozen?_of_block (a := ⟨x, 0, none⟩) h1).trans H.2.1, (cell_same h2).trans H.2.2.1, (cell_same h2).trans H.2.2.2⟩
set_option maxRecDepth 100000 in
set_option maxHeartbeats 2000000 in
theorem rcnew_any {w : World} {oa : Option Addr} {n c : Nat} {l : List If} (h : Ifs w oa n c l) (hn : n ≤ 4294967296) : Calls Try.prog 24 #[.slice oa n c] w fun e w' => ∃ x base, e = .returned (.pointer (some ⟨x, 0, none⟩)) ∧ RefB w' base x ((sortI l).map cy0) ∧ Below w.heap.size w w' ∧ w.heap.size ≤ x := by
  have HL := Lib.hid h.sl.len
  have hal := (Below.refl w.heap.size w).alloc (Nat.le_refl _) (.cells #[.slice none 0 0, .int .i64 0, .int .i64 0, .int .i64 0, .int .i64 0, .int .i64 0, .int .i64 0, .int .i64 0, .int .i64 0, .int .i64 0, .int .i64 0, .int .i64 0, .int .i64 0, .int .i64 0, .int .i64 0, .int .i64 0, .int .i64 0, .int .i64 0, .int .i64 0, .int .i64 0, .int .i64 0, .int .i64 0, .int .i64 0, .int .i64 0, .int .i64 0, .int .i64 0, .int .i64 0, .int .i64 0, .int .i64 0, .int .i64 0, .int .i64 0, .int .i64 0, .int .i64 0] 108)
  have HS := Lib.hid (rsort_any (h.keep hal) hn)
  have h0 : (w.alloc (.cells #[.slice none 0 0, .int .i64 0, .int .i64 0, .int .i64 0, .int .i64 0, .int .i64 0, .int .i64 0, .int .i64 0, .int .i64 0, .int .i64 0, .int .i64 0, .int .i64 0, .int .i64 0, .int .i64 0, .int .i64 0, .int .i64 0, .int .i64 0, .int .i64 0, .int .i64 0, .int .i64 0, .int .i64 0, .int .i64 0, .int .i64 0, .int .i64 0, .int .i64 0, .int .i64 0, .int .i64 0, .int .i64 0, .int .i64 0, .int .i64 0, .int .i64 0, .int .i64 0, .int .i64 0] 108)).heap[w.heap.size]? = some (.cells #[.slice none 0 0, .int .i64 0, .int .i64 0, .int .i64 0, .int .i64 0, .int .i64 0, .int .i64 0, .int .i64 0, .int .i64 0, .int .i64 0, .int .i64 0, .int .i64 0, .int .i64 0, .int .i64 0, .int .i64 0, .int .i64 0, .int .i64 0, .int .i64 0, .int .i64 0, .int .i64 0, .int .i64 0, .int .i64 0, .int .i64 0, .int .i64 0, .int .i64 0, .int .i64 0, .int .i64 0, .int .i64 0, .int .i64 0, .int .i64 0, .int .i64 0, .int .i64 0, .int .i64 0] 108) := hnew _ _
  have F := Lib.hid (And.intro hal h0)
  clear h hal h0
  go_enter Try.func24, Try.ntmps24
  go_wp2_with fail
  refine (HS.out).mono ?_
  rintro e W ⟨v4, rfl, hown4, hb4⟩
  have hML : (sortI l).length = n := by rw [sortI_length]; exact HL.out.symm
  obtain ⟨a4, c4, rfl, hsl4, -⟩ := hown4.sl0
  rw [hML] at hsl4 ⊢
  have hbW := F.out.1.trans (hb4.mono (by simp))
  have hx1 : W.heap[w.heap.size]? = some (.cells #[.slice none 0 0, .int .i64 0, .int .i64 0, .int .i64 0, .int .i64 0, .int .i64 0, .int .i64 0, .int .i64 0, .int .i64 0, .int .i64 0, .int .i64 0, .int .i64 0, .int .i64 0, .int .i64 0, .int .i64 0, .int .i64 0, .int .i64 0, .int .i64 0, .int .i64 0, .int .i64 0, .int .i64 0, .int .i64 0, .int .i64 0, .int .i64 0, .int .i64 0, .int .i64 0, .int .i64 0, .int .i64 0, .int .i64 0, .int .i64 0, .int .i64 0, .int .i64 0, .int .i64 0] 108) := (hb4.block _ (lt_of_blk F.out.2)).trans F.out.2
  have hxW : w.heap.size < W.heap.size := lt_of_blk hx1
  have hblk : ∀ b o, a4 = some ⟨b, o, none⟩ → b ≠ w.heap.size := by
    intro b o e
    rcases hown4.cases with ⟨h1, -⟩ | ⟨g, cap, h1, hg, -⟩
    · injection h1 with h1; rw [h1] at e; cases e
    · injection h1 with h1; rw [h1] at e; injection e with e; injection e with e1 e2 e3; subst e1
      rw [show ∀ o, (w.alloc o).heap.size = w.heap.size + 1 from fun o => by simp] at hg
      omega
  have hR : RefB W W.heap.size w.heap.size (((sortI l).take 0).map cy0) := ⟨hxW, _, _, hx1, rfl, rfl, fun j h1 h2 => by
    have : j = 1 ∨ j = 2 ∨ j = 3 ∨ j = 4 ∨ j = 5 ∨ j = 6 ∨ j = 7 ∨ j = 8 ∨ j = 9 ∨ j = 10 ∨ j = 11 ∨ j = 12 ∨ j = 13 ∨ j = 14 ∨ j = 15 ∨ j = 16 ∨ j = 17 ∨ j = 18 ∨ j = 19 ∨ j = 20 ∨ j = 21 ∨ j = 22 ∨ j = 23 ∨ j = 24 ∨ j = 25 ∨ j = 26 ∨ j = 27 ∨ j = 28 ∨ j = 29 ∨ j = 30 ∨ j = 31 ∨ j = 32 := by omega
    rcases this with rfl | rfl | rfl | rfl | rfl | rfl | rfl | rfl | rfl | rfl | rfl | rfl | rfl | rfl | rfl | rfl | rfl | rfl | rfl | rfl | rfl | rfl | rfl | rfl | rfl | rfl | rfl | rfl | rfl | rfl | rfl | rfl <;> exact ⟨0, rfl⟩, Rep.Own.nil _ _⟩
  have HB := Lib.hid (And.intro hbW (And.intro hsl4 (And.intro hblk hR)))
  obtain ⟨M, hM⟩ : ∃ M, M = sortI l := ⟨_, rfl⟩
  rw [← hM] at HB hML
  have HM := Lib.hid hM
  clear hM
  clear hown4 hb4 hx1 hblk hR hbW hsl4 F HS
  have hmax : n ≤ maxLen := by unfold maxLen; omega
  go_wp2_with fail
  go_loopw [5] (fun iv wr => ∃ i : Nat, i ≤ n ∧ iv = .int .i64 i ∧ RefB wr W.heap.size w.heap.size ((M.take i).map cy0) ∧ But W wr [w.heap.size]) (fun iv _ => n - (intOf iv).toNat)
  case atStart => exact ⟨0, Nat.zero_le _, rfl, HB.out.2.2.2, But.refl _ _⟩
  case round =>
    obtain ⟨i, hi, rfl, hr, hbt⟩ := hrel
    obtain ⟨w2, rfl⟩ : ∃ w2 : World, w2 = wr := ⟨_, rfl⟩
    by_cases hlt : i < n
    · have hil : ((i : Int) < (n : Int)) = True := by simp; omega
      have hw3 := wrapS hlt hmax
      have hwsz : W.heap.size ≤ w2.heap.size := hbt.size
      obtain ⟨cs, v, k1, k2, k3, k4, k5⟩ := hr.out
      obtain ⟨b, o, hbb, hrow⟩ := HB.out.2.1.row (by omega)
      subst hbb
      have hbx := HB.out.2.2.1 b o rfl
      have hbW := hrow.lt
      have hrow2 : RIf.Row w2 b o M := hrow.keep (hbt.block b hrow.lt (by simp; exact hbx))
      have hat := hrow2.get i (by omega)
      have y0 := hat 0 (by decide)
      have y3 := hat 4 (by decide)
      simp only [RIf, Nat.add_zero, List.getElem?_cons_zero, List.getElem?_cons_succ] at y0 y3
      have t1 := take_map_succ cy0 M (i := i) (by omega)
      generalize M.getD i default = y at *
      have hS : RnS w.heap.size v b (o + i * 5) y w2 := ⟨cell_of k1 k3, free_of k1, y0, y3⟩
      have hd := (Below.refl w2.heap.size w2).drew
      have G := Lib.hid (And.intro (show RefX w2.drew W.heap.size w.heap.size v from ⟨hr.lt, cs, k1, k2, k3, k4⟩) (And.intro (hbt.drew) (And.intro (show RnS w.heap.size v b (o + i * 5) y w2.drew from hS) (And.intro (show RCy.Own w2.drew W.heap.size v ((M.take i).map cy0) from k5) (And.intro hbx hbW)))))
      have hml : ((M.take i).map cy0).length = i := by rw [List.length_map, List.length_take]; omega
      clear hr hbt k1 k2 k3 k4 k5 hrow hrow2 hat y0 y3 hS hd hbx hbW
      go_wp2_with fail
      refine wp_region_T 20 (RnS w.heap.size v b (o + i * 5) y) (by kernel_rfl) ?_
      generalize w2.drew = w3 at *
      have hwsz : W.heap.size ≤ w3.heap.size := G.out.2.1.size
      refine T_reads [0, 1, 2, 3, 4, 5, 6, 7, 8, 9, 10, 11, 12, 13, 14, 15] (g := 5) rfl (by kernel_rfl) G.out.2.2.1 (fun _ _ d _ _ h => by cases d <;> exact h) ?_
      simp only [pick, List.getD_cons_zero, List.getD_cons_succ]
      iterate 16 ((with_reducible refine wpRead_step (fun K hK => ?_)); go_simp; first | ((with_reducible refine hK _ ?_); clear hK K) | (apply Exists.intro; (with_reducible refine ⟨fun w' hw' => ?_, hK _ ?_⟩); (obtain ⟨f0, f1, f2, f3⟩ := hw'; go_simp; first | exact rfl | exact ⟨rfl, rfl⟩); clear hK K))
      with_reducible refine wpRead_nil ?_
      refine T_one 16 (by kernel_rfl) ?_
      simp only [pick, List.getD_cons_zero, List.getD_cons_succ]
      go_wp2_with fail
      have hal := (Below.refl w3.heap.size w3).alloc (Nat.le_refl _) (.cells #[.int .i64 y.id, .int .i64 y.cp, .bool false] 52)
      have hone : RCy.Sl (w3.alloc (.cells #[.int .i64 y.id, .int .i64 y.cp, .bool false] 52)) (some ⟨w3.heap.size, 0, none⟩) 1 1 [cy0 y] := Rep.sl_one (R := RCy) (y := cy0 y) (hnew _ _)
      have hx3 : w.heap.size < w3.heap.size := by omega
      have hb3 : b < w3.heap.size := by have := G.out.2.2.2.2.2; omega
      have G := Lib.hid (And.intro (G.out.1.on (hal.block _ hx3)) (And.intro (G.out.2.1.alloc (.cells #[.int .i64 y.id, .int .i64 y.cp, .bool false] 52)) (And.intro (G.out.2.2.1.on (hal.block _ hx3) (hal.block _ hb3)) (And.intro (G.out.2.2.2.1.below hal) (And.intro G.out.2.2.2.2.1 (And.intro G.out.2.2.2.2.2 hone))))))
      clear hal hone hx3 hb3
      generalize w3.alloc (.cells #[.int .i64 y.id, .int .i64 y.cp, .bool false] 52) = w4 at *
      generalize w3.heap.size = q3 at *
      have hwsz : W.heap.size ≤ w4.heap.size := G.out.2.1.size
      refine ⟨fun _ => G.out.2.2.1, ?_⟩
      refine T_one 17 (by kernel_rfl) ?_
      simp only [pick, List.getD_cons_zero, List.getD_cons_succ]
      go_wp2_with (at_builtin; refine halt ?_)
      refine Halted.go ?_
      refine Rep.append_list T64 rfl _ _ rfl rfl G.out.2.2.2.1 rfl G.out.2.2.2.2.2.2 (fun e => by cases e) (by rw [hml]; unfold maxLen; omega) (by rw [hml]; omega) hwsz ?_
      intro v5 w5 hown5 hb5 _
      rw [← t1] at hown5
      obtain ⟨a5, c5, rfl, -⟩ := hown5.sl0
      have hl1 : ((M.take (i + 1)).map cy0).length = i + 1 := by rw [List.length_map, List.length_take]; omega
      rw [hl1] at hown5 ⊢
      have hbt5 : But W w5 [w.heap.size] := Rep.But.step G.out.2.1 hb5 (Nat.le_refl _)
      have G := Lib.hid (And.intro (G.out.1.on (hb5.block _ hxW)) (And.intro hbt5 (And.intro (G.out.2.2.1.on (hb5.block _ hxW) (hb5.block _ G.out.2.2.2.2.2.1)) hown5)))
      clear hown5 hb5 hbt5
      go_wp2_with fail
      refine ⟨fun _ => G.out.2.2.1, ?_⟩
      refine T_one 18 (by kernel_rfl) ?_
      simp only [pick, List.getD_cons_zero, List.getD_cons_succ]
      go_wp2_with fail
      refine ⟨fun _ => G.out.2.2.1, ?_⟩
      refine T_one 19 (by kernel_rfl) ?_
      simp only [pick, List.getD_cons_zero, List.getD_cons_succ]
      go_wp2_with fail
      refine ⟨fun _ => G.out.2.2.1, ?_⟩
      refine T_one 20 (by kernel_rfl) ?_
      simp only [pick, List.getD_cons_zero, List.getD_cons_succ]
      obtain ⟨f0, f1, f2, f3⟩ := G.out.2.2.1
      have hset := G.out.1.setL G.out.2.2.2 rfl
      have G := Lib.hid (And.intro hset.1 (G.out.2.1.trans hset.2))
      clear hset
      go_wp2_with fail
      refine ⟨fun h => absurd rfl h, ?_⟩
      refine T_done (by kernel_rfl) ?_ _
      go_wp2_with fail
      exact ⟨⟨i + 1, hlt, by first | rw [hw3] | rw [Int.natCast_succ], G.out.1, G.out.2⟩, by first | (rw [hw3]; exact mSucc hlt) | (rw [← Int.natCast_succ]; exact mSucc hlt)⟩
    · obtain rfl : n = i := by omega
      have hil : ((n : Int) < (n : Int)) = False := by simp
      rw [List.take_of_length_le (by rw [hML]; exact Nat.le_refl _)] at hr
      have G := Lib.hid (And.intro hr hbt)
      have HBW := Lib.hid HB.out.1
      clear hr hbt HB
      go_wp2_with fail
      go_loopw [6] (fun kv wr => ∃ k : Nat, k ≤ 16 ∧ kv = .int .i64 k ∧ RefB wr W.heap.size w.heap.size (M.map cy0) ∧ But W wr [w.heap.size]) (fun kv _ => 16 - (intOf kv).toNat)
      case atStart => exact ⟨0, Nat.zero_le _, rfl, G.out⟩
      case round =>
        obtain ⟨k, hk, rfl, hr, hbt⟩ := hrel
        by_cases hkt : k < 16
        · have hkl : ((k : Int) < 16) = True := by simp; omega
          have hk0 : ((0 : Int) ≤ (k : Int)) = True := by simp
          have hwk := wrapS hkt (by decide)
          obtain ⟨cs, v, k1, k2, k3, k4, k5⟩ := hr.out
          obtain ⟨s, hs⟩ := k4 (1 + k) (by omega) (by omega)
          have e0 : wr.cell? ⟨w.heap.size, 1 + k, none⟩ = some (.int .i64 s) := cell_of k1 hs
          have f0 : wr.frozen? ⟨w.heap.size, 1 + k, none⟩ = false := free_of k1
          have hset := hr.setInt (j := 1 + k) (by omega) (s := -1) rfl
          have G2 := Lib.hid (And.intro hset.1 (hbt.trans hset.2))
          clear hr hbt k1 k2 k3 k4 k5 hs hset G
          go_wp2_with fail
          exact ⟨⟨k + 1, hkt, by first | rw [hwk] | rw [Int.natCast_succ], G2.out.1, G2.out.2⟩, by first | (rw [hwk]; exact mSucc hkt) | (rw [← Int.natCast_succ]; exact mSucc hkt)⟩
        · obtain rfl : k = 16 := by omega
          have G2 := Lib.hid (And.intro hr (HBW.out.trans (hbt.below (Nat.le_of_lt hxW) (by simp))))
          clear hr hbt G
          go_wp2_with fail
          go_ret
          exact ⟨_, _, rfl, HM.out ▸ G2.out.1, G2.out.2, Nat.le_refl _⟩
end Go.Proofs.Ytgainkgbodmciaa
