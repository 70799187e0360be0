/- HopShorter: the law's walk. -/
import Derived.Test.YtlkbaplfffbmkaaBk
namespace Go.Proofs.Ytlkbaplfffbmkaa
open Go.RowKit

def I3 (n : Int) : Prop := -9223372036854775808 ≤ n ∧ n ≤ 9223372036854775807
theorem Good.init {l : List If} {z : If} (h : Good (l ++ [z])) : Good l := by
  have hd : ∀ k, k < l.length → (l ++ [z]).getD k default = l.getD k default := fun k hk => by
    simp [List.getD_eq_getElem?_getD, List.getElem?_append_left hk]
  refine ⟨fun x hx => h.ok x (by simp [hx]), fun k i hk hi => ?_, fun k i hk hi => ?_, ?_⟩
  · have := h.ids k i hk (by simp; omega)
    rwa [hd k (by omega), hd i hi] at this
  · have := h.nets k i hk (by simp; omega)
    rwa [hd k (by omega), hd i hi] at this
  · have := h.len
    simp at this
    omega
theorem ownE {w : World} : RIf.Own (w.alloc (.cells #[] 34)) w.heap.size (.slice (some ⟨w.heap.size, 0, none⟩) 0 0) ([] : List If) := Rep.own_empty (hnew w _) (Nat.le_refl _)
set_option maxRecDepth 100000 in
set_option maxHeartbeats 2000000 in
theorem hshort_law {w : World} {oa : Option Addr} {n c : Nat} {l : List If} (hl : IfsW w oa n c l) (hnil : oa = none → c = 0) (hroom : n * 40 ≤ 140737488351232) {id : Int} (hid : I3 id) {ρ : Int} (hρ : I3 ρ) {a : Nat} (ha : a < 4294967296) : Calls Try.prog 5 #[.slice oa n c, .int .i64 id, .int .i64 ρ, .int .u32 a] w fun e w' => e = .returned (.bool true) ∧ Below w.heap.size w w' := by
  have HL := Lib.hid hl.ifs.sl.len
  have HI := Lib.hid hl
  have HN := Lib.hid hnil
  have HID := Lib.hid (And.intro hid hρ)
  clear hl hnil hid hρ
  go_enter Try.func5, Try.ntmps5
  go_wp2_with (at_builtin; refine halt ?_)
  refine Halted.go ?_
  have hal := (Below.refl w.heap.size w).alloc (Nat.le_refl _) (.cells #[] 34)
  refine Rep.append_list T23 rfl _ _ rfl (base := w.heap.size) (L := []) (M := l) rfl ownE rfl (HI.out.ifs.sl.keep hal) HN.out (by unfold maxLen; rw [List.length_nil]; omega) (by show (0 + n) * 40 ≤ _; omega) hal.size ?_
  intro v1 W1 hown1 hb1 _
  rw [List.nil_append] at hown1
  have hbb := hal.trans hb1
  have F0 := Lib.hid (And.intro hbb (And.intro (HI.out.keep hbb) hown1))
  clear hal hbb hb1 hown1
  go_wp2_with (at_builtin; refine halt ?_)
  refine Halted.go ?_
  have hal := (Below.refl W1.heap.size W1).alloc (Nat.le_refl _) (.cells #[.int .i64 id, .int .i64 ρ, .int .u32 0, .int .i64 0, .int .i64 0] 34)
  have hone : (W1.alloc (.cells #[.int .i64 id, .int .i64 ρ, .int .u32 0, .int .i64 0, .int .i64 0] 34)).heap[W1.heap.size]? = some (.cells #[.int .i64 id, .int .i64 ρ, .int .u32 0, .int .i64 0, .int .i64 0] 34) := hnew _ _
  have F1 := Lib.hid (And.intro (bcall F0.out.1 (Nat.le_refl _) hal) (And.intro (F0.out.2.1.keep hal) (And.intro (F0.out.2.2.below hal) (hone))))
  clear F0
  clear hal hone
  refine Rep.append_one T23 rfl _ _ rfl rfl F1.out.2.2.1 ⟨id, ρ, 0, 0, 0⟩ W1.heap.size 1 rfl F1.out.2.2.2 (n := n) HL.out.symm (by unfold maxLen; omega) (by show (n + 1) * 40 ≤ _; omega) F1.out.1.size ?_
  intro v2 W2 hown2 hb2 _
  have hll : (l ++ [(⟨id, ρ, 0, 0, 0⟩ : If)]).length = n + 1 := by rw [List.length_append, ← HL.out]; rfl
  obtain ⟨a2, c2, rfl, hsl2, -⟩ := hown2.sl0
  rw [hll] at hsl2 ⊢
  have hbb := F1.out.1.trans hb2
  have F9 := Lib.hid (And.intro hbb (And.intro (HI.out.keep hbb) (show IfsW W2 a2 (n + 1) c2 (l ++ [⟨id, ρ, 0, 0, 0⟩]) from ⟨⟨hsl2, fun x hx => by
    rcases List.mem_append.1 hx with hx | hx
    · exact HI.out.ifs.ad x hx
    · simp at hx; subst hx; show (0 : Nat) < 4294967296; omega⟩, fun x hx => by
    rcases List.mem_append.1 hx with hx | hx
    · exact HI.out.ok x hx
    · simp at hx; subst hx; exact ⟨wfI HID.out.1, wfI HID.out.2, wfU ⟨by show (0 : Int) ≤ 0; omega, by show (0 : Int) ≤ 4294967295; omega⟩, wfI ⟨by show (-9223372036854775808 : Int) ≤ 0; omega, by show (0 : Int) ≤ 9223372036854775807; omega⟩⟩⟩)))
  clear hown2 hb2 hsl2 hbb hll F1
  by_cases h100 : 100 < n
  · have h1 : ((100 : Int) < (n : Int)) = True := by simp; omega
    clear h100
    go_wp2_with fail
    refine (lives16 W2).mono ?_
    rintro e W3 ⟨rfl, hb⟩
    have HB := Lib.hid (bcall F9.out.1 (Nat.le_refl _) hb)
    clear hb
    go_wp2_with fail
    go_ret
    exact ⟨rfl, HB.out⟩
  have h1 : ((100 : Int) < (n : Int)) = False := by simp; omega
  obtain ⟨bg, hbg⟩ : ∃ bg, goodB (l ++ [(⟨id, ρ, 0, 0, 0⟩ : If)]) = bg := ⟨_, rfl⟩
  have HG := Lib.hid hbg
  clear hbg
  cases bg with
  | false =>
    go_wp2_with fail
    have hch := rchk_is F9.out.2.2.ifs
    rw [HG.out] at hch
    refine hch.mono ?_
    rintro e W3 ⟨rfl, hb⟩
    have F2 := Lib.hid (And.intro (bcall F9.out.1 (Nat.le_refl _) hb) (And.intro (F9.out.2.1.keep hb) ((F9.out.2.2.keep hb))))
    clear F9
    clear hb hch
    go_wp2_with fail
    refine (lives16 W3).mono ?_
    rintro e W4 ⟨rfl, hb⟩
    have F3 := Lib.hid (And.intro (bcall F2.out.1 (Nat.le_refl _) hb) (And.intro (F2.out.2.1.keep hb) ((F2.out.2.2.keep hb))))
    clear F2
    clear hb
    go_wp2_with fail
    go_ret
    exact ⟨rfl, F3.out.1⟩
  | true =>
    have hgm := good_iff.1 HG.out
    have hgl := hgm.init
    have hzr := okI_iff.1 (hgm.ok ⟨id, ρ, 0, 0, 0⟩ (by simp))
    have hr0 : 0 ≤ ρ := hzr.2.2.1
    have hr1 : ρ ≤ 15 := hzr.2.2.2.1
    obtain ⟨q, rfl⟩ : ∃ q : Nat, ρ = (q : Int) := ⟨ρ.toNat, by omega⟩
    have hq : q < 16 := by omega
    have hfs := find_shorter (ρ := q) (a := a) hgl hgm ha rfl rfl rfl
    have HK := Lib.hid (And.intro hgm (And.intro hgl hq))
    have HS := Lib.hid hfs
    clear hgm hgl hzr hr0 hr1 hq hfs
    go_wp2_with fail
    have hch := rchk_is F9.out.2.2.ifs
    rw [HG.out] at hch
    refine hch.mono ?_
    rintro e W3 ⟨rfl, hb⟩
    have F4 := Lib.hid (And.intro (bcall F9.out.1 (Nat.le_refl _) hb) (And.intro (F9.out.2.1.keep hb) ((F9.out.2.2.keep hb))))
    clear F9
    clear hb hch
    go_wp2_with fail
    refine (hnew_ok F4.out.2.1.ifs HK.out.2.1).mono ?_
    rintro e W4 ⟨g0, rfl, hH, hb⟩
    have F5 := Lib.hid (And.intro (bcall F4.out.1 (Nat.le_refl _) hb) (And.intro (F4.out.2.1.keep hb) (And.intro (F4.out.2.2.keep hb) (hH))))
    clear F4
    clear hb hH
    go_wp2_with fail
    refine (hnew_ok F5.out.2.2.1.ifs HK.out.1).mono ?_
    rintro e W5 ⟨h0, rfl, hH, hb⟩
    have F6 := Lib.hid (And.intro (bcall F5.out.1 (Nat.le_refl _) hb) (And.intro (F5.out.2.1.keep hb) (And.intro (F5.out.2.2.1.keep hb) (And.intro (F5.out.2.2.2.keep hb) (hH)))))
    clear F5
    clear hb hH
    go_wp2_with fail
    rcases HS.out with ⟨x, e1, e2⟩ | ⟨e1, e2⟩
    · have HE := Lib.hid (And.intro e1 e2)
      clear e1 e2 HS
      refine (find_any F6.out.2.2.2.1 HK.out.2.2 ha x true (by rw [HE.out.1]; rfl) (fun h => by cases h)).mono ?_
      rintro e W6 ⟨rfl, hb⟩
      have hal := (Below.refl W6.heap.size W6).alloc (Nat.le_refl _) (.cells #[.int .i64 x.id, .int .i64 x.r, .int .u32 (x.ad : Int), .int .i64 x.ln, .int .i64 x.cp] 34)
      have hlb : (W6.alloc (.cells #[.int .i64 x.id, .int .i64 x.r, .int .u32 (x.ad : Int), .int .i64 x.ln, .int .i64 x.cp] 34)).heap[W6.heap.size]? = some (.cells #[.int .i64 x.id, .int .i64 x.r, .int .u32 (x.ad : Int), .int .i64 x.ln, .int .i64 x.cp] 34) := hnew _ _
      have hbb := bcall hb (Nat.le_refl _) hal
      have F7 := Lib.hid (And.intro (bcall F6.out.1 (Nat.le_refl _) hbb) (And.intro (F6.out.2.1.keep hbb) (And.intro (F6.out.2.2.1.keep hbb) (And.intro (F6.out.2.2.2.1.keep hbb) (And.intro (F6.out.2.2.2.2.keep hbb) (hlb))))))
      clear F6
      clear hal hlb hbb hb
      unfold If.v
      go_wp2_with fail
      generalize W6.alloc (.cells #[.int .i64 x.id, .int .i64 x.r, .int .u32 (x.ad : Int), .int .i64 x.ln, .int .i64 x.cp] 34) = W7 at *
      generalize W6.heap.size = q6 at *
      refine (find_any F7.out.2.2.2.2.1 HK.out.2.2 ha x true (by rw [HE.out.2]; rfl) (fun h => by cases h)).mono ?_
      rintro e W8 ⟨rfl, hb⟩
      have hal := (Below.refl W8.heap.size W8).alloc (Nat.le_refl _) (.cells #[.int .i64 x.id, .int .i64 x.r, .int .u32 (x.ad : Int), .int .i64 x.ln, .int .i64 x.cp] 34)
      have hlb : (W8.alloc (.cells #[.int .i64 x.id, .int .i64 x.r, .int .u32 (x.ad : Int), .int .i64 x.ln, .int .i64 x.cp] 34)).heap[W8.heap.size]? = some (.cells #[.int .i64 x.id, .int .i64 x.r, .int .u32 (x.ad : Int), .int .i64 x.ln, .int .i64 x.cp] 34) := hnew _ _
      have hbb := bcall hb (Nat.le_refl _) hal
      have F8 := Lib.hid (And.intro (bcall F7.out.1 (Nat.le_refl _) hbb) (And.intro (F7.out.2.1.keep hbb) (And.intro (F7.out.2.2.1.keep hbb) (And.intro (F7.out.2.2.2.1.keep hbb) (And.intro (F7.out.2.2.2.2.1.keep hbb) (And.intro ((hbb.block _ (lt_of_blk F7.out.2.2.2.2.2)).trans F7.out.2.2.2.2.2) (hlb)))))))
      clear F7
      clear hal hlb hbb hb
      unfold If.v
      go_wp2_with fail
      generalize W8.alloc (.cells #[.int .i64 x.id, .int .i64 x.r, .int .u32 (x.ad : Int), .int .i64 x.ln, .int .i64 x.cp] 34) = W9 at *
      generalize W8.heap.size = q8 at *
      refine (lives16 W9).mono ?_
      rintro e W10 ⟨rfl, hb⟩
      have F9 := Lib.hid (And.intro (bcall F8.out.1 (Nat.le_refl _) hb) (And.intro (F8.out.2.1.keep hb) (And.intro (F8.out.2.2.1.keep hb) (And.intro (F8.out.2.2.2.1.keep hb) (And.intro (F8.out.2.2.2.2.1.keep hb) (And.intro ((hb.block _ (lt_of_blk F8.out.2.2.2.2.2.1)).trans F8.out.2.2.2.2.2.1) (((hb.block _ (lt_of_blk F8.out.2.2.2.2.2.2)).trans F8.out.2.2.2.2.2.2))))))))
      clear F8
      clear hb
      obtain ⟨x0, x1, x2, x3, x4⟩ := IfS.cells (x := x) F9.out.2.2.2.2.2.1
      obtain ⟨y0, y1, y2, y3, y4⟩ := IfS.cells (x := x) F9.out.2.2.2.2.2.2
      go_wp2_with fail
      go_ret
      exact ⟨rfl, F9.out.1⟩
    · have HE := Lib.hid (And.intro e1 e2)
      clear e1 e2 HS
      refine (find_any F6.out.2.2.2.1 HK.out.2.2 ha ⟨0, 0, 0, 0, 0⟩ false (by rw [HE.out.1]; rfl) (fun h => rfl)).mono ?_
      rintro e W6 ⟨rfl, hb⟩
      have hal := (Below.refl W6.heap.size W6).alloc (Nat.le_refl _) (.cells #[.int .i64 0, .int .i64 0, .int .u32 0, .int .i64 0, .int .i64 0] 34)
      have hlb : (W6.alloc (.cells #[.int .i64 0, .int .i64 0, .int .u32 0, .int .i64 0, .int .i64 0] 34)).heap[W6.heap.size]? = some (.cells #[.int .i64 0, .int .i64 0, .int .u32 0, .int .i64 0, .int .i64 0] 34) := hnew _ _
      have hbb := bcall hb (Nat.le_refl _) hal
      have F10 := Lib.hid (And.intro (bcall F6.out.1 (Nat.le_refl _) hbb) (And.intro (F6.out.2.1.keep hbb) (And.intro (F6.out.2.2.1.keep hbb) (And.intro (F6.out.2.2.2.1.keep hbb) (And.intro (F6.out.2.2.2.2.keep hbb) (hlb))))))
      clear F6
      clear hal hlb hbb hb
      unfold If.v
      go_wp2_with fail
      generalize W6.alloc (.cells #[.int .i64 0, .int .i64 0, .int .u32 0, .int .i64 0, .int .i64 0] 34) = W7 at *
      generalize W6.heap.size = q6 at *
      refine (find_any F10.out.2.2.2.2.1 HK.out.2.2 ha ⟨id, (q : Int), 0, 0, 0⟩ true (by rw [HE.out.2]; rfl) (fun h => by cases h)).mono ?_
      rintro e W8 ⟨rfl, hb⟩
      have hal := (Below.refl W8.heap.size W8).alloc (Nat.le_refl _) (.cells #[.int .i64 id, .int .i64 (q : Int), .int .u32 0, .int .i64 0, .int .i64 0] 34)
      have hlb : (W8.alloc (.cells #[.int .i64 id, .int .i64 (q : Int), .int .u32 0, .int .i64 0, .int .i64 0] 34)).heap[W8.heap.size]? = some (.cells #[.int .i64 id, .int .i64 (q : Int), .int .u32 0, .int .i64 0, .int .i64 0] 34) := hnew _ _
      have hbb := bcall hb (Nat.le_refl _) hal
      have F11 := Lib.hid (And.intro (bcall F10.out.1 (Nat.le_refl _) hbb) (And.intro (F10.out.2.1.keep hbb) (And.intro (F10.out.2.2.1.keep hbb) (And.intro (F10.out.2.2.2.1.keep hbb) (And.intro (F10.out.2.2.2.2.1.keep hbb) (And.intro ((hbb.block _ (lt_of_blk F10.out.2.2.2.2.2)).trans F10.out.2.2.2.2.2) (hlb)))))))
      clear F10
      clear hal hlb hbb hb
      unfold If.v
      go_wp2_with fail
      generalize W8.alloc (.cells #[.int .i64 id, .int .i64 (q : Int), .int .u32 0, .int .i64 0, .int .i64 0] 34) = W9 at *
      generalize W8.heap.size = q8 at *
      refine (lives16 W9).mono ?_
      rintro e W10 ⟨rfl, hb⟩
      have F12 := Lib.hid (And.intro (bcall F11.out.1 (Nat.le_refl _) hb) (And.intro (F11.out.2.1.keep hb) (And.intro (F11.out.2.2.1.keep hb) (And.intro (F11.out.2.2.2.1.keep hb) (And.intro (F11.out.2.2.2.2.1.keep hb) (And.intro ((hb.block _ (lt_of_blk F11.out.2.2.2.2.2.1)).trans F11.out.2.2.2.2.2.1) (((hb.block _ (lt_of_blk F11.out.2.2.2.2.2.2)).trans F11.out.2.2.2.2.2.2))))))))
      clear F11
      clear hb
      obtain ⟨x0, x1, x2, x3, x4⟩ := IfS.cells (x := ⟨0, 0, 0, 0, 0⟩) F12.out.2.2.2.2.2.1
      obtain ⟨y0, y1, y2, y3, y4⟩ := IfS.cells (x := ⟨id, (q : Int), 0, 0, 0⟩) F12.out.2.2.2.2.2.2
      go_wp2_with fail
      go_ret
      exact ⟨rfl, F12.out.1⟩
end Go.Proofs.Ytlkbaplfffbmkaa
