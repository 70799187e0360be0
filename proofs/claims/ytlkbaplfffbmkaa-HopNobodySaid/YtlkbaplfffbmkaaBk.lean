/- HopFinds: the law's walk. -/
import Derived.Test.YtlkbaplfffbmkaaBj
import Derived.Test.YtlkbaplfffbmkaaBg
import Derived.Test.YtlkbaplfffbmkaaBh
namespace Go.Proofs.Ytlkbaplfffbmkaa
open Go.RowKit

theorem find_both {l : List If} (hg : Good l) (ρ : Int) {a : Nat} (ha : a < 4294967296) : ∃ (r : If) (is : Bool), ((refFind l ρ a).map (fun j => l.getD j default) = if is then some r else none) ∧ (is = false → r = ⟨0, 0, 0, 0, 0⟩) ∧ ∀ w h, HopsAt w h (hdOf l) → Calls Try.prog 14 #[.pointer (some ⟨h, 0, none⟩), .int .i64 ρ, .int .u32 a] w fun e w' => e = .returned (.tuple #[.agg #[.int .i64 r.id, .int .i64 r.r, .int .u32 (r.ad : Int), .int .i64 r.ln, .int .i64 r.cp], .bool is]) ∧ Below w.heap.size w w' := by
  by_cases hρ : ρ < 0 ∨ 15 < ρ
  · refine ⟨⟨0, 0, 0, 0, 0⟩, false, by rw [refFind_out hg a hρ]; rfl, fun _ => rfl, fun w h _ => find_out h hρ a w⟩
  · obtain ⟨k, rfl⟩ : ∃ k : Nat, ρ = (k : Int) := ⟨ρ.toNat, by omega⟩
    have hk : k < 16 := by omega
    rw [find_ref hg]
    cases hf : (hdOf l).find k a with
    | none => exact ⟨⟨0, 0, 0, 0, 0⟩, false, rfl, fun _ => rfl, fun w h H => find_any H hk ha _ false (by rw [hf]; rfl) (fun _ => rfl)⟩
    | some r => exact ⟨r, true, rfl, fun h => (by cases h), fun w h H => find_any H hk ha r true (by rw [hf]; rfl) (fun h => by cases h)⟩
theorem get_getI {l : List If} (hg : Good l) (id : Int) : (hdOf l).get id = getI l id := by
  unfold getI
  cases hf : l.find? (fun x => decide (x.id = id)) with
  | none =>
    cases hh : (hdOf l).get id with
    | none => rfl
    | some y =>
      obtain ⟨h1, h2⟩ := get_mem hh
      rw [List.find?_eq_none] at hf
      have := hf y h1
      simp [h2] at this
  | some x =>
    have h1 := List.mem_of_find?_eq_some hf
    have h2 := List.find?_some hf
    simp only [decide_eq_true_eq] at h2
    rw [← h2]
    exact get_of hg h1
theorem iface_both {l : List If} (hg : Good l) {id : Int} (hid : IN.ok id) : ∃ (r : If) (is : Bool), (getI l id = if is then some r else none) ∧ (is = false → r = ⟨0, 0, 0, 0, 0⟩) ∧ ∀ w h, HopsAt w h (hdOf l) → Calls Try.prog 16 #[.pointer (some ⟨h, 0, none⟩), .int .i64 id] w fun e w' => e = .returned (.tuple #[.agg #[.int .i64 r.id, .int .i64 r.r, .int .u32 (r.ad : Int), .int .i64 r.ln, .int .i64 r.cp], .bool is]) ∧ Below w.heap.size w w' := by
  have hgg := get_getI hg id
  cases hf : getI l id with
  | none => exact ⟨⟨0, 0, 0, 0, 0⟩, false, rfl, fun _ => rfl, fun w h H => iface_any H hid _ false (by rw [hgg, hf]; rfl) (fun _ => rfl)⟩
  | some r => exact ⟨r, true, rfl, fun h => (by cases h), fun w h H => iface_any H hid r true (by rw [hgg, hf]; rfl) (fun h => by cases h)⟩
set_option maxRecDepth 100000 in
set_option maxHeartbeats 2000000 in
theorem hfinds_law {w : World} {oa : Option Addr} {n c : Nat} {l : List If} (hl : IfsW w oa n c l) (ρ : Int) {a : Nat} (ha : a < 4294967296) {id : Int} (hid : IN.ok id) : Calls Try.prog 3 #[.slice oa n c, .int .i64 ρ, .int .u32 a, .int .i64 id] w fun e w' => e = .returned (.bool true) ∧ Below w.heap.size w w' := by
  have hlen := hl.ifs.sl.len
  have HL := Lib.hid hlen
  have HI := Lib.hid hl
  clear hl hlen
  by_cases h300 : 300 < n
  · have h3 : ((300 : Int) < (n : Int)) = True := by simp; omega
    clear h300
    go_enter Try.func3, Try.ntmps3
    go_wp2_with fail
    refine (lives16 w).mono ?_
    rintro e W1 ⟨rfl, hb⟩
    have HB := Lib.hid hb
    clear hb
    go_wp2_with fail
    go_ret
    exact ⟨rfl, HB.out⟩
  have h3 : ((300 : Int) < (n : Int)) = False := by simp; omega
  obtain ⟨bg, hbg⟩ : ∃ bg, goodB l = bg := ⟨_, rfl⟩
  have HG := Lib.hid hbg
  clear hbg
  cases bg with
  | false =>
    go_enter Try.func3, Try.ntmps3
    go_wp2_with fail
    refine (hnew_bad HI.out HG.out).mono ?_
    rintro e W1 ⟨rfl, hb⟩
    have F0 := Lib.hid (And.intro hb (HI.out.keep hb))
    clear hb
    go_wp2_with fail
    refine (lives16 W1).mono ?_
    rintro e W2 ⟨rfl, hb⟩
    have F1 := Lib.hid (And.intro (bcall F0.out.1 (Nat.le_refl _) hb) ((F0.out.2.keep hb)))
    clear F0
    clear hb
    go_wp2_with fail
    have hch := rchk_is F1.out.2.ifs
    rw [HG.out] at hch
    refine hch.mono ?_
    rintro e W3 ⟨rfl, hb⟩
    have F2 := Lib.hid (And.intro (bcall F1.out.1 (Nat.le_refl _) hb) ((F1.out.2.keep hb)))
    clear F1
    clear hb hch
    go_wp2_with fail
    have hch := hcheck_any F2.out.2 false HG.out
    rw [cond_false] at hch
    refine hch.mono ?_
    rintro e W4 ⟨rfl, hb⟩
    have F3 := Lib.hid (And.intro (bcall F2.out.1 (Nat.le_refl _) hb) ((F2.out.2.keep hb)))
    clear F2
    clear hb hch
    go_wp2_with fail
    go_ret
    exact ⟨rfl, F3.out.1⟩
  | true =>
    obtain ⟨r1, is1, e1, z1, c1⟩ := find_both (good_iff.1 HG.out) ρ ha
    obtain ⟨r2, is2, e2, z2, c2⟩ := iface_both (good_iff.1 HG.out) hid
    have HC1 := Lib.hid c1
    have HC2 := Lib.hid c2
    have HE1 := Lib.hid (And.intro e1 z1)
    have HE2 := Lib.hid (And.intro e2 z2)
    clear c1 c2 e1 e2 z1 z2
    go_enter Try.func3, Try.ntmps3
    go_wp2_with fail
    refine (hnew_ok HI.out.ifs (good_iff.1 HG.out)).mono ?_
    rintro e W1 ⟨hb0, rfl, hH, hb⟩
    have F0 := Lib.hid (And.intro hb (And.intro (HI.out.keep hb) hH))
    clear hb hH
    go_wp2_with fail
    refine (lives16 W1).mono ?_
    rintro e W2 ⟨rfl, hb⟩
    have F4 := Lib.hid (And.intro (bcall F0.out.1 (Nat.le_refl _) hb) (And.intro (F0.out.2.1.keep hb) ((F0.out.2.2.keep hb))))
    clear F0
    clear hb
    go_wp2_with fail
    have hch := rchk_is F4.out.2.1.ifs
    rw [HG.out] at hch
    refine hch.mono ?_
    rintro e W3 ⟨rfl, hb⟩
    have F5 := Lib.hid (And.intro (bcall F4.out.1 (Nat.le_refl _) hb) (And.intro (F4.out.2.1.keep hb) ((F4.out.2.2.keep hb))))
    clear F4
    clear hb hch
    go_wp2_with fail
    refine (hcheck_ok F5.out.2.1.ifs (good_iff.1 HG.out)).mono ?_
    rintro e W4 ⟨rfl, hb⟩
    have F6 := Lib.hid (And.intro (bcall F5.out.1 (Nat.le_refl _) hb) (And.intro (F5.out.2.1.keep hb) ((F5.out.2.2.keep hb))))
    clear F5
    clear hb
    go_wp2_with fail
    refine (HC1.out _ _ F6.out.2.2).mono ?_
    rintro e W5 ⟨rfl, hb⟩
    have hal := (Below.refl W5.heap.size W5).alloc (Nat.le_refl _) (.cells #[.int .i64 r1.id, .int .i64 r1.r, .int .u32 (r1.ad : Int), .int .i64 r1.ln, .int .i64 r1.cp] 34)
    have hlb : (W5.alloc (.cells #[.int .i64 r1.id, .int .i64 r1.r, .int .u32 (r1.ad : Int), .int .i64 r1.ln, .int .i64 r1.cp] 34)).heap[W5.heap.size]? = some (.cells #[.int .i64 r1.id, .int .i64 r1.r, .int .u32 (r1.ad : Int), .int .i64 r1.ln, .int .i64 r1.cp] 34) := hnew _ _
    have hbb := bcall hb (Nat.le_refl _) hal
    have F7 := Lib.hid (And.intro (bcall F6.out.1 (Nat.le_refl _) hbb) (And.intro (F6.out.2.1.keep hbb) (And.intro (F6.out.2.2.keep hbb) (hlb))))
    clear F6
    clear hal hlb hbb hb
    go_wp2_with fail
    generalize W5.alloc (.cells #[.int .i64 r1.id, .int .i64 r1.r, .int .u32 (r1.ad : Int), .int .i64 r1.ln, .int .i64 r1.cp] 34) = W6 at *
    generalize W5.heap.size = q4 at *
    go_wp2_with fail
    refine (rfindI_any F7.out.2.1.ifs ρ ha r1 is1 HE1.out.1 HE1.out.2).mono ?_
    rintro e W7 ⟨rfl, hb⟩
    have hal := (Below.refl W7.heap.size W7).alloc (Nat.le_refl _) (.cells #[.int .i64 r1.id, .int .i64 r1.r, .int .u32 (r1.ad : Int), .int .i64 r1.ln, .int .i64 r1.cp] 34)
    have hlb : (W7.alloc (.cells #[.int .i64 r1.id, .int .i64 r1.r, .int .u32 (r1.ad : Int), .int .i64 r1.ln, .int .i64 r1.cp] 34)).heap[W7.heap.size]? = some (.cells #[.int .i64 r1.id, .int .i64 r1.r, .int .u32 (r1.ad : Int), .int .i64 r1.ln, .int .i64 r1.cp] 34) := hnew _ _
    have hbb := bcall hb (Nat.le_refl _) hal
    have F8 := Lib.hid (And.intro (bcall F7.out.1 (Nat.le_refl _) hbb) (And.intro (F7.out.2.1.keep hbb) (And.intro (F7.out.2.2.1.keep hbb) (And.intro ((hbb.block _ (lt_of_blk F7.out.2.2.2)).trans F7.out.2.2.2) (hlb)))))
    clear F7
    clear hal hlb hbb hb
    unfold If.v
    go_wp2_with fail
    generalize W7.alloc (.cells #[.int .i64 r1.id, .int .i64 r1.r, .int .u32 (r1.ad : Int), .int .i64 r1.ln, .int .i64 r1.cp] 34) = W8 at *
    generalize W7.heap.size = q6 at *
    go_wp2_with fail
    refine (HC2.out _ _ F8.out.2.2.1).mono ?_
    rintro e W9 ⟨rfl, hb⟩
    have hal := (Below.refl W9.heap.size W9).alloc (Nat.le_refl _) (.cells #[.int .i64 r2.id, .int .i64 r2.r, .int .u32 (r2.ad : Int), .int .i64 r2.ln, .int .i64 r2.cp] 34)
    have hlb : (W9.alloc (.cells #[.int .i64 r2.id, .int .i64 r2.r, .int .u32 (r2.ad : Int), .int .i64 r2.ln, .int .i64 r2.cp] 34)).heap[W9.heap.size]? = some (.cells #[.int .i64 r2.id, .int .i64 r2.r, .int .u32 (r2.ad : Int), .int .i64 r2.ln, .int .i64 r2.cp] 34) := hnew _ _
    have hbb := bcall hb (Nat.le_refl _) hal
    have F9 := Lib.hid (And.intro (bcall F8.out.1 (Nat.le_refl _) hbb) (And.intro (F8.out.2.1.keep hbb) (And.intro (F8.out.2.2.1.keep hbb) (And.intro ((hbb.block _ (lt_of_blk F8.out.2.2.2.1)).trans F8.out.2.2.2.1) (And.intro ((hbb.block _ (lt_of_blk F8.out.2.2.2.2)).trans F8.out.2.2.2.2) (hlb))))))
    clear F8
    clear hal hlb hbb hb
    go_wp2_with fail
    generalize W9.alloc (.cells #[.int .i64 r2.id, .int .i64 r2.r, .int .u32 (r2.ad : Int), .int .i64 r2.ln, .int .i64 r2.cp] 34) = W10 at *
    generalize W9.heap.size = q8 at *
    go_wp2_with fail
    refine (riface_any F9.out.2.1.ifs id r2 is2 HE2.out.1 HE2.out.2).mono ?_
    rintro e W11 ⟨rfl, hb⟩
    have hal := (Below.refl W11.heap.size W11).alloc (Nat.le_refl _) (.cells #[.int .i64 r2.id, .int .i64 r2.r, .int .u32 (r2.ad : Int), .int .i64 r2.ln, .int .i64 r2.cp] 34)
    have hlb : (W11.alloc (.cells #[.int .i64 r2.id, .int .i64 r2.r, .int .u32 (r2.ad : Int), .int .i64 r2.ln, .int .i64 r2.cp] 34)).heap[W11.heap.size]? = some (.cells #[.int .i64 r2.id, .int .i64 r2.r, .int .u32 (r2.ad : Int), .int .i64 r2.ln, .int .i64 r2.cp] 34) := hnew _ _
    have hbb := bcall hb (Nat.le_refl _) hal
    have F10 := Lib.hid (And.intro (bcall F9.out.1 (Nat.le_refl _) hbb) (And.intro (F9.out.2.1.keep hbb) (And.intro (F9.out.2.2.1.keep hbb) (And.intro ((hbb.block _ (lt_of_blk F9.out.2.2.2.1)).trans F9.out.2.2.2.1) (And.intro ((hbb.block _ (lt_of_blk F9.out.2.2.2.2.1)).trans F9.out.2.2.2.2.1) (And.intro ((hbb.block _ (lt_of_blk F9.out.2.2.2.2.2)).trans F9.out.2.2.2.2.2) (hlb)))))))
    clear F9
    clear hal hlb hbb hb
    unfold If.v
    obtain ⟨x0, x1, x2, x3, x4⟩ := IfS.cells (x := r1) F10.out.2.2.2.1
    obtain ⟨y0, y1, y2, y3, y4⟩ := IfS.cells (x := r1) F10.out.2.2.2.2.1
    obtain ⟨z0, z1, z2, z3, z4⟩ := IfS.cells (x := r2) F10.out.2.2.2.2.2.1
    obtain ⟨v0, v1, v2, v3, v4⟩ := IfS.cells (x := r2) F10.out.2.2.2.2.2.2
    clear HC1 HC2 HE1 HE2
    go_wp2_with fail
    generalize W11.alloc (.cells #[.int .i64 r2.id, .int .i64 r2.r, .int .u32 (r2.ad : Int), .int .i64 r2.ln, .int .i64 r2.cp] 34) = W12 at *
    generalize W11.heap.size = q11 at *
    have hsn : (sortI l).length = n := by rw [sortI_length]; exact HL.out.symm
    refine (all_any F10.out.2.2.1 (good_iff.1 HG.out)).mono ?_
    rintro e W13 ⟨v, rfl, hown, hb⟩
    obtain ⟨a5, c5, rfl, hsl, -⟩ := hown.sl0
    rw [hsn] at hsl ⊢
    have F11 := Lib.hid (And.intro (bcall F10.out.1 (Nat.le_refl _) hb) (And.intro (F10.out.2.1.keep hb) (And.intro (F10.out.2.2.1.keep hb) (hsl))))
    clear F10
    clear hb hown hsl x0 x1 x2 x3 x4 y0 y1 y2 y3 y4 z0 z1 z2 z3 z4 v0 v1 v2 v3 v4
    go_wp2_with fail
    have hn9 : n ≤ 4294967296 := by omega
    refine (rsort_any F11.out.2.1.ifs hn9).mono ?_
    rintro e W14 ⟨v, rfl, hown, hb⟩
    obtain ⟨a6, c6, rfl, hsl, -⟩ := hown.sl0
    rw [hsn] at hsl ⊢
    have F12 := Lib.hid (And.intro (bcall F11.out.1 (Nat.le_refl _) hb) (And.intro (F11.out.2.1.keep hb) (And.intro (F11.out.2.2.1.keep hb) (And.intro (F11.out.2.2.2.keep hb) (hsl)))))
    clear F11
    clear hb hown hsl hn9
    go_wp2_with fail
    refine (rsameI F12.out.2.2.2.1 F12.out.2.2.2.2).mono ?_
    rintro e W15 ⟨rfl, hb⟩
    have F13 := Lib.hid (And.intro (bcall F12.out.1 (Nat.le_refl _) hb) (And.intro (F12.out.2.1.keep hb) (And.intro (F12.out.2.2.1.keep hb) (And.intro (F12.out.2.2.2.1.keep hb) ((F12.out.2.2.2.2.keep hb))))))
    clear F12
    clear hb
    go_wp2_with fail
    refine (len_of F13.out.2.2.1 (good_iff.1 HG.out)).mono ?_
    rintro e W16 ⟨rfl, rfl⟩
    rw [show ((l.length : Nat) : Int) = (n : Int) from by rw [HL.out]]
    go_wp2_with fail
    go_ret
    exact ⟨rfl, F13.out.1⟩
end Go.Proofs.Ytlkbaplfffbmkaa
