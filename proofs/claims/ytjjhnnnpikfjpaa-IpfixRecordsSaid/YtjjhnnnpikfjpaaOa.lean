/- lives. -/
import Derived.Test.YtjjhnnnpikfjpaaNz
namespace Go.Proofs.Ytjjhnnnpikfjpaa
open Go.RowKit

theorem usual2 (w : World) : Calls Try.prog 22 #[] w fun e w' => (∃ a c, e = .returned (.agg #[.int .i64 300, .slice a 2 c]) ∧ FdsOk w' ⟨a, 2, c, [(12, 4), (1, 4)]⟩) ∧ Below w.heap.size w w' :=
  (usual_any w).mono fun e w' ⟨⟨t, h1, h2, h3, h4, h5⟩, hb⟩ => by
    obtain ⟨id, ⟨a, n, c, l⟩⟩ := t
    dsimp only at *
    subst h2 h3 h4
    exact ⟨⟨a, c, h1, h5⟩, hb⟩
def pB : List Nat := [0, 10, 0, 21, 0, 0, 0, 1, 0, 0, 0, 2, 0, 0, 0, 3, 1, 44, 0, 5, 9]
theorem getP_pB : getP pB = some ⟨1, 2, 3, [(300, [9])]⟩ := by rfl
theorem getP_cut : getP (pB.take 20) = none := by rfl
def p0 (a b : Nat) : Pk := ⟨1, 2, 3, ⟨some ⟨a, 0, none⟩, 1, 1, [((300 : Int), (⟨some ⟨b, 0, none⟩, 1, 1, [9]⟩ : SlV Nat))]⟩⟩
theorem okP_p0 (a b : Nat) : okP (p0 a b) = true := by rfl
theorem pkB_p0 (a b : Nat) : pkB (p0 a b) = pB := by kernel_rfl
theorem tms_usual (x : Int × SlV (Int × Int)) (h1 : x.1 = 300) (h2 : x.2.n = 2) (h3 : x.2.l = [(12, 4), (1, 4)]) : tmsB [x] = usB ∧ [x].any oddX = false := by
  obtain ⟨i, a, n, c, l⟩ := x
  dsimp only at *
  subst h1 h2 h3
  exact ⟨by kernel_rfl, by kernel_rfl⟩
theorem pB_bytes : Bytes pB := by intro x hx; simp [pB] at hx; omega
def fU : List (Int × Int) := [(12, 4), (1, 4)]
theorem tms1 {W : World} {a : Option Addr} {c : Nat} (hf : FdsOk W ⟨a, 2, c, [(12, 4), (1, 4)]⟩) : TmsOk (W.alloc (.cells #[.int .i64 300, .slice a 2 c] 41)) ⟨some ⟨W.heap.size, 0, none⟩, 1, 1, [((300 : Int), (⟨a, 2, c, [(12, 4), (1, 4)]⟩ : SlV (Int × Int)))]⟩ ∧ Below W.heap.size W (W.alloc (.cells #[.int .i64 300, .slice a 2 c] 41)) := by
  have hb := (Below.refl W.heap.size W).alloc (Nat.le_refl _) (.cells #[.int .i64 300, .slice a 2 c] 41)
  have ho : RTm.Own (W.alloc (.cells #[.int .i64 300, .slice a 2 c] 41)) W.heap.size (.slice (some ⟨W.heap.size, 0, none⟩) 1 1) [((300 : Int), (⟨a, 2, c, [(12, 4), (1, 4)]⟩ : SlV (Int × Int)))] := ⟨rfl, .inr ⟨W.heap.size, 1, #[.int .i64 300, .slice a 2 c], rfl, Nat.le_refl _, hnew _ _, Nat.le_refl _, by unfold maxLen; omega, rfl, rfl⟩⟩
  obtain ⟨oa, c', hv, -, -, hs, -⟩ := ho.sl
  simp only [Value.slice.injEq] at hv
  obtain ⟨rfl, -, rfl⟩ := hv
  exact ⟨⟨hs, (fun h => by cases h), Nat.le_refl _, by show 1 ≤ maxLen; unfold maxLen; omega, fun x hx => by simp only [List.mem_singleton] at hx; subst hx; exact FdsOk.keep hf hb⟩, hb⟩
def z17 : List Nat := List.replicate 17 0
theorem zeros17 (W : World) : B5 (W.alloc (.cells #[.int .u8 0, .int .u8 0, .int .u8 0, .int .u8 0, .int .u8 0, .int .u8 0, .int .u8 0, .int .u8 0, .int .u8 0, .int .u8 0, .int .u8 0, .int .u8 0, .int .u8 0, .int .u8 0, .int .u8 0, .int .u8 0, .int .u8 0] 5)) (some ⟨W.heap.size, 0, none⟩) 17 17 z17 := by
  have ho : RB.Own (W.alloc (.cells #[.int .u8 0, .int .u8 0, .int .u8 0, .int .u8 0, .int .u8 0, .int .u8 0, .int .u8 0, .int .u8 0, .int .u8 0, .int .u8 0, .int .u8 0, .int .u8 0, .int .u8 0, .int .u8 0, .int .u8 0, .int .u8 0, .int .u8 0] 5)) W.heap.size (.slice (some ⟨W.heap.size, 0, none⟩) 17 17) z17 := ⟨rfl, .inr ⟨W.heap.size, 17, #[.int .u8 0, .int .u8 0, .int .u8 0, .int .u8 0, .int .u8 0, .int .u8 0, .int .u8 0, .int .u8 0, .int .u8 0, .int .u8 0, .int .u8 0, .int .u8 0, .int .u8 0, .int .u8 0, .int .u8 0, .int .u8 0, .int .u8 0], rfl, Nat.le_refl _, hnew _ _, Nat.le_refl _, by unfold maxLen; omega, rfl, rfl⟩⟩
  obtain ⟨oa, c, hv, hs⟩ := b5_own ho
  simp only [Value.slice.injEq] at hv
  obtain ⟨rfl, -, rfl⟩ := hv
  exact hs
theorem z17_bytes : Bytes z17 := by intro x hx; simp [z17] at hx; omega
theorem szT_usual (a : Option Addr) (c : Nat) : szT ⟨300, ⟨a, 2, c, [(12, 4), (1, 4)]⟩⟩ = 8 := by kernel_rfl
theorem recs17 {W : World} {a : Option Addr} {c : Nat} (hf : FdsOk W ⟨a, 2, c, [(12, 4), (1, 4)]⟩) {b : Nat} (hz : B5 W (some ⟨b, 0, none⟩) 17 17 z17) : Calls Try.prog 15 #[.agg #[.int .i64 300, .slice a 2 c], .slice (some ⟨b, 0, none⟩) 17 17] W fun e w' => (∃ oa c', e = .returned (.tuple #[.slice oa 2 c', .int .i64 0])) ∧ Below W.heap.size W w' :=
  (recs_ok ⟨300, ⟨a, 2, c, [(12, 4), (1, 4)]⟩⟩ W hf (by rw [szT_usual]; omega) hz.ba z17_bytes (by omega)).mono fun e w' ⟨⟨v, vs, h1, h2, h3⟩, hb⟩ => by
    obtain ⟨oa, c', hv, -, -, -, -⟩ := h2.sl
    have hl := h3.len
    rw [szT_usual] at hl
    have hl2 : vs.length = 2 := by rw [hl]; rfl
    rw [hl2] at hv
    subst hv
    exact ⟨⟨oa, c', h1⟩, hb⟩
theorem get_cut {W : World} {oa : Option Addr} {c : Nat} (h : B5 W oa 21 c pB) : Calls Try.prog 11 #[.slice oa 20 c] W fun e w' => e = .returned (.tuple #[.agg #[.int .i64 0, .int .i64 0, .int .i64 0, .slice none 0 0], .int .i64 310]) ∧ Below W.heap.size W w' :=
  (get_pk (h.init (k := 20) (by omega)) h.nil (pB_bytes.take 20) (by omega)).mono fun e w' ⟨⟨p, h1, h2⟩, hb⟩ => by
    rw [getP_cut] at h2
    rcases h2 with ⟨-, rfl, rfl⟩ | ⟨Q, hQ, -⟩
    · exact ⟨rfl, hb⟩
    · cases hQ
theorem tj_eq {W : World} {oa a : Option Addr} {c c' : Nat} {x : Int × SlV (Int × Int)} (h : TmsOk W ⟨oa, 1, c, [x]⟩) (hx : x.1 = 300 ∧ x.2.l = [(12, 4), (1, 4)]) : [x].map tj = [((300 : Int), (⟨a, 2, c', [(12, 4), (1, 4)]⟩ : SlV (Int × Int)))].map tj := by
  have hn := (h.all x (by simp)).sl.len
  rw [hx.2] at hn
  have hn2 : x.2.n = 2 := hn
  simp [tj, hx.1, hx.2, hn2]
theorem check_neg (W : World) : Calls Try.prog 10 #[.agg #[.int .i64 (-1), .int .i64 0, .int .i64 0, .slice none 0 0]] W fun e w' => e = .returned (.int .i64 310) ∧ Below W.heap.size W w' :=
  (check_any ⟨-1, 0, 0, ⟨none, 0, 0, []⟩⟩ W (sts_nil W) (fun x hx => by cases hx)).mono fun e w' ⟨h, hb⟩ => ⟨h, hb⟩
theorem size_usual {W : World} {a : Option Addr} {c : Nat} (hf : FdsOk W ⟨a, 2, c, [(12, 4), (1, 4)]⟩) : Calls Try.prog 16 #[.agg #[.int .i64 300, .slice a 2 c]] W fun e w' => e = .returned (.int .i64 8) ∧ Below W.heap.size W w' :=
  (size_tm ⟨300, ⟨a, 2, c, [(12, 4), (1, 4)]⟩⟩ W hf).mono fun e w' ⟨h, hb⟩ => ⟨by rw [szT_usual] at h; exact h, hb⟩
set_option maxRecDepth 100000 in
set_option maxHeartbeats 8000000 in
theorem lives_any (w : World) : Calls Try.prog 7 #[] w fun e w' => e = .returned (.bool true) ∧ Below w.heap.size w w' := by
  have hb1 := (Below.refl w.heap.size w).alloc (Nat.le_refl _) (.cells #[.int .u8 9] 5)
  have hb2 := hb1.alloc hb1.size (.cells #[.int .i64 300, .slice (some ⟨w.heap.size, 0, none⟩) 1 1] 51)
  have hb3 := hb2.alloc hb2.size (.cells #[.int .i64 1, .int .i64 2, .int .i64 3, .slice (some ⟨w.heap.size + 1, 0, none⟩) 1 1] 24)
  have k1 : (((w.alloc (.cells #[.int .u8 9] 5)).alloc (.cells #[.int .i64 300, .slice (some ⟨w.heap.size, 0, none⟩) 1 1] 51)).alloc (.cells #[.int .i64 1, .int .i64 2, .int .i64 3, .slice (some ⟨w.heap.size + 1, 0, none⟩) 1 1] 24)).heap[w.heap.size]? = some (.cells #[.int .u8 9] 5) := hold (hold (hnew _ _))
  have k2 : (((w.alloc (.cells #[.int .u8 9] 5)).alloc (.cells #[.int .i64 300, .slice (some ⟨w.heap.size, 0, none⟩) 1 1] 51)).alloc (.cells #[.int .i64 1, .int .i64 2, .int .i64 3, .slice (some ⟨w.heap.size + 1, 0, none⟩) 1 1] 24)).heap[w.heap.size + 1]? = some (.cells #[.int .i64 300, .slice (some ⟨w.heap.size, 0, none⟩) 1 1] 51) := hold (hnewAt (Array.size_push _).symm)
  have k3 : PkS (w.heap.size + 2) #[.int .i64 1, .int .i64 2, .int .i64 3, .slice (some ⟨w.heap.size + 1, 0, none⟩) 1 1] (((w.alloc (.cells #[.int .u8 9] 5)).alloc (.cells #[.int .i64 300, .slice (some ⟨w.heap.size, 0, none⟩) 1 1] 51)).alloc (.cells #[.int .i64 1, .int .i64 2, .int .i64 3, .slice (some ⟨w.heap.size + 1, 0, none⟩) 1 1] 24)) := hnewAt (by simp)
  go_enter Try.func7, Try.ntmps7
  go_wp2_with fail
  generalize (((w.alloc (.cells #[.int .u8 9] 5)).alloc (.cells #[.int .i64 300, .slice (some ⟨w.heap.size, 0, none⟩) 1 1] 51)).alloc (.cells #[.int .i64 1, .int .i64 2, .int .i64 3, .slice (some ⟨w.heap.size + 1, 0, none⟩) 1 1] 24)) = W1 at *
  have hd0 : DOk W1 ⟨some ⟨w.heap.size, 0, none⟩, 1, 1, [9]⟩ := by
    have ho : RB.Own W1 w.heap.size (.slice (some ⟨w.heap.size, 0, none⟩) 1 1) [9] := ⟨rfl, .inr ⟨w.heap.size, 1, #[.int .u8 9], rfl, Nat.le_refl _, k1, Nat.le_refl _, by unfold maxLen; omega, rfl, rfl⟩⟩
    obtain ⟨oa, c, hv, -, -, hs, -⟩ := ho.sl
    simp only [Value.slice.injEq] at hv
    obtain ⟨rfl, -, rfl⟩ := hv
    exact ⟨hs, (fun h => by cases h), Nat.le_refl _, by show 1 ≤ maxLen; unfold maxLen; omega, fun x hx => by simp at hx; omega⟩
  have hst0 : StsOk W1 (p0 (w.heap.size + 1) w.heap.size).ss := by
    have ho : RSt.Own W1 w.heap.size (.slice (some ⟨w.heap.size + 1, 0, none⟩) 1 1) [((300 : Int), (⟨some ⟨w.heap.size, 0, none⟩, 1, 1, [9]⟩ : SlV Nat))] := ⟨rfl, .inr ⟨w.heap.size + 1, 1, #[.int .i64 300, .slice (some ⟨w.heap.size, 0, none⟩) 1 1], rfl, Nat.le_succ _, k2, Nat.le_refl _, by unfold maxLen; omega, rfl, rfl⟩⟩
    obtain ⟨oa, c, hv, -, -, hs, -⟩ := ho.sl
    simp only [Value.slice.injEq] at hv
    obtain ⟨rfl, -, rfl⟩ := hv
    exact ⟨hs, (fun h => by cases h), Nat.le_refl _, by show 1 ≤ maxLen; unfold maxLen; omega, fun x hx => by simp only [p0, List.mem_singleton] at hx; subst hx; exact ⟨⟨by show (-9223372036854775808 : Int) ≤ 300; decide, by show (300 : Int) ≤ 9223372036854775807; decide⟩, hd0⟩⟩
  have F0 := Lib.hid (And.intro hb3 (And.intro k3 hst0))
  clear hb1 hb2 hb3 k1 k2 k3 hd0 hst0
  have hput := put_ok (p0 (w.heap.size + 1) w.heap.size) W1 F0.out.2.2 (okP_p0 _ _) (by simp [p0])
  rw [pkB_p0] at hput
  have HC := Lib.hid (show Calls Try.prog 8 #[.agg #[.int .i64 1, .int .i64 2, .int .i64 3, .slice (some ⟨w.heap.size + 1, 0, none⟩) 1 1]] W1 _ from hput)
  clear hput
  refine (HC.out).mono ?_
  rintro e W2 ⟨⟨v2, rfl, ho2⟩, hb2⟩
  obtain ⟨oa2, c2, hv2, hs2⟩ := b5_own ho2
  have hl2 : pB.length = 21 := rfl
  rw [hl2] at hv2 hs2
  subst hv2
  have F1 := Lib.hid (And.intro (bcall F0.out.1 (Nat.le_refl _) hb2) (And.intro (F0.out.2.1.on hb2) (And.intro (F0.out.2.2.keep hb2) (hs2))))
  clear F0
  clear hb2 hs2 ho2 hl2 HC
  obtain ⟨b2, o2, rfl⟩ : ∃ b o, oa2 = some ⟨b, o, none⟩ := by
    rcases F1.out.2.2.2.ad with h | h
    · have := F1.out.2.2.2.nil h; have := F1.out.2.2.2.le; omega
    · exact h
  go_wp2_with fail
  refine (get_pk F1.out.2.2.2.sl F1.out.2.2.2.nil pB_bytes (by omega)).mono ?_
  rintro e W3 ⟨⟨p, hsp, hor⟩, hb3⟩
  rw [getP_pB] at hor
  rcases hor with ⟨h, -⟩ | ⟨Q, hQ, his, rfl⟩
  · cases h
  injection hQ with hQ
  subst hQ
  obtain ⟨ptm, psq, pdm, pa, pn, pc, pl⟩ := p
  obtain ⟨rfl, rfl, rfl, hpl⟩ := his
  dsimp only at hsp hpl
  have F2 := Lib.hid (And.intro (bcall F1.out.1 (Nat.le_refl _) hb3) (And.intro (F1.out.2.1.on hb3) (And.intro (F1.out.2.2.1.keep hb3) (And.intro (F1.out.2.2.2.below hb3) (hsp)))))
  clear F1
  clear hb3 hsp
  have HPL := Lib.hid hpl
  clear hpl
  simp only [Pk.v]
  have hal := (Below.refl W3.heap.size W3).alloc (Nat.le_refl _) (.cells #[.int .i64 1, .int .i64 2, .int .i64 3, .slice pa pn pc] 24)
  have h4 : PkS W3.heap.size #[.int .i64 1, .int .i64 2, .int .i64 3, .slice pa pn pc] (W3.alloc (.cells #[.int .i64 1, .int .i64 2, .int .i64 3, .slice pa pn pc] 24)) := hnew _ _
  have F3 := Lib.hid (And.intro (bcall F2.out.1 (Nat.le_refl _) hal) (And.intro (F2.out.2.1.on hal) (And.intro (F2.out.2.2.1.keep hal) (And.intro (F2.out.2.2.2.1.below hal) (And.intro (F2.out.2.2.2.2.keep hal) (h4))))))
  clear F2
  clear hal h4
  go_wp2_with fail
  generalize W3.alloc (.cells #[.int .i64 1, .int .i64 2, .int .i64 3, .slice pa pn pc] 24) = W4 at *
  generalize W3.heap.size = q4 at *
  refine (usual2 _).mono ?_
  rintro e W5a ⟨⟨a5, c5, rfl, hf5⟩, hb5⟩
  obtain ⟨ht5, hc5⟩ := tms1 hf5
  have hbb5 := bcall hb5 (Nat.le_refl _) hc5
  have F4 := Lib.hid (And.intro (bcall F3.out.1 (Nat.le_refl _) hbb5) (And.intro (F3.out.2.1.on hbb5) (And.intro (F3.out.2.2.1.keep hbb5) (And.intro (F3.out.2.2.2.1.below hbb5) (And.intro (F3.out.2.2.2.2.1.keep hbb5) (And.intro (F3.out.2.2.2.2.2.on hbb5) (ht5)))))))
  clear F3
  clear hf5 hb5 ht5 hc5 hbb5
  go_wp2_with fail
  generalize W5a.alloc (.cells #[.int .i64 300, .slice a5 2 c5] 41) = W5 at *
  generalize W5a.heap.size = q5 at *
  have hu5 := tms_usual ((300 : Int), (⟨a5, 2, c5, [(12, 4), (1, 4)]⟩ : SlV (Int × Int))) rfl rfl rfl
  refine (putT_ok F4.out.2.2.2.2.2.2 hu5.2 (by omega)).mono ?_
  rintro e W6 ⟨⟨v6, rfl, ho6⟩, hb6⟩
  rw [hu5.1] at ho6
  clear hu5
  obtain ⟨oa6, c6, hv6, hs6⟩ := bs_own ho6
  have hl6 : usB.length = 12 := rfl
  rw [hl6] at hv6 hs6
  subst hv6
  have F5 := Lib.hid (And.intro (bcall F4.out.1 (Nat.le_refl _) hb6) (And.intro (F4.out.2.1.on hb6) (And.intro (F4.out.2.2.1.keep hb6) (And.intro (F4.out.2.2.2.1.below hb6) (And.intro (F4.out.2.2.2.2.1.keep hb6) (And.intro (F4.out.2.2.2.2.2.1.on hb6) (hs6)))))))
  clear F4
  clear hb6 ho6 hs6 hl6
  go_wp2_with fail
  refine (gett_usual F5.out.2.2.2.2.2.2.sl F5.out.2.2.2.2.2.2.nil).mono ?_
  rintro e W7 ⟨⟨oa7, c7, x7, rfl, ht7, hx7, hy7⟩, hb7⟩
  have HX7 := Lib.hid (And.intro hx7 hy7)
  have F6 := Lib.hid (And.intro (bcall F5.out.1 (Nat.le_refl _) hb7) (And.intro (F5.out.2.1.on hb7) (And.intro (F5.out.2.2.1.keep hb7) (And.intro (F5.out.2.2.2.1.below hb7) (And.intro (F5.out.2.2.2.2.1.keep hb7) (And.intro (F5.out.2.2.2.2.2.1.on hb7) (And.intro (F5.out.2.2.2.2.2.2.below hb7) (ht7))))))))
  clear F5
  clear hb7 ht7 hx7 hy7
  go_wp2_with fail
  have hmk : ∀ w, (Instr.makeSlice 27 (.int .i64 17) (.int .i64 17)).run Try.prog w = .ok (.slice (some ⟨w.heap.size, 0, none⟩) 17 17) (w.alloc (.cells #[.int .u8 0, .int .u8 0, .int .u8 0, .int .u8 0, .int .u8 0, .int .u8 0, .int .u8 0, .int .u8 0, .int .u8 0, .int .u8 0, .int .u8 0, .int .u8 0, .int .u8 0, .int .u8 0, .int .u8 0, .int .u8 0, .int .u8 0] 5)) := fun _ => by kernel_rfl
  refine wp_region_heldP (fun _ => True) (by kernel_rfl) ?_
  have hd := (Below.refl W7.heap.size W7).drew
  have F7 := Lib.hid (And.intro (bcall F6.out.1 (Nat.le_refl _) hd) (And.intro (F6.out.2.1.on hd) (And.intro (F6.out.2.2.1.keep hd) (And.intro (F6.out.2.2.2.1.below hd) (And.intro (F6.out.2.2.2.2.1.keep hd) (And.intro (F6.out.2.2.2.2.2.1.on hd) (And.intro (F6.out.2.2.2.2.2.2.1.below hd) ((F6.out.2.2.2.2.2.2.2.keep hd)))))))))
  clear F6
  clear hd
  generalize W7.drew = W8 at *
  refine held_two 0 1 (by kernel_rfl) ?_ ?_
  · simp only [pick, List.getD_cons_zero]
    go_wp2_with fail
    refine (usual2 _).mono ?_
    rintro e W9 ⟨⟨a9, c9, rfl, hf9⟩, hb9⟩
    have F8 := Lib.hid (And.intro (bcall F7.out.1 (Nat.le_refl _) hb9) (And.intro (F7.out.2.1.on hb9) (And.intro (F7.out.2.2.1.keep hb9) (And.intro (F7.out.2.2.2.1.below hb9) (And.intro (F7.out.2.2.2.2.1.keep hb9) (And.intro (F7.out.2.2.2.2.2.1.on hb9) (And.intro (F7.out.2.2.2.2.2.2.1.below hb9) (And.intro (F7.out.2.2.2.2.2.2.2.keep hb9) (hf9)))))))))
    clear F7
    clear hf9 hb9
    go_wp2_with fail
    refine ⟨trivial, ?_⟩
    refine held_one 1 (by kernel_rfl) ?_
    simp only [pick, List.getD_cons_zero, List.getD_cons_succ]
    have hal := (Below.refl W9.heap.size W9).alloc (Nat.le_refl _) (.cells #[.int .u8 0, .int .u8 0, .int .u8 0, .int .u8 0, .int .u8 0, .int .u8 0, .int .u8 0, .int .u8 0, .int .u8 0, .int .u8 0, .int .u8 0, .int .u8 0, .int .u8 0, .int .u8 0, .int .u8 0, .int .u8 0, .int .u8 0] 5)
    have hz := zeros17 W9
    have F9 := Lib.hid (And.intro (bcall F8.out.1 (Nat.le_refl _) hal) (And.intro (F8.out.2.1.on hal) (And.intro (F8.out.2.2.1.keep hal) (And.intro (F8.out.2.2.2.1.below hal) (And.intro (F8.out.2.2.2.2.1.keep hal) (And.intro (F8.out.2.2.2.2.2.1.on hal) (And.intro (F8.out.2.2.2.2.2.2.1.below hal) (And.intro (F8.out.2.2.2.2.2.2.2.1.keep hal) (And.intro (FdsOk.keep F8.out.2.2.2.2.2.2.2.2 hal) (hz))))))))))
    clear F8
    clear hal hz
    go_wp2_with fail
    generalize W9.alloc (.cells #[.int .u8 0, .int .u8 0, .int .u8 0, .int .u8 0, .int .u8 0, .int .u8 0, .int .u8 0, .int .u8 0, .int .u8 0, .int .u8 0, .int .u8 0, .int .u8 0, .int .u8 0, .int .u8 0, .int .u8 0, .int .u8 0, .int .u8 0] 5) = Wa at *
    generalize W9.heap.size = qz at *
    refine ⟨trivial, ?_⟩
    refine held_one 2 (by kernel_rfl) ?_
    simp only [pick, List.getD_cons_zero, List.getD_cons_succ]
    go_wp2_with fail
    refine (recs17 F9.out.2.2.2.2.2.2.2.2.1 F9.out.2.2.2.2.2.2.2.2.2).mono ?_
    rintro e Wb ⟨⟨oab, cb, rfl⟩, hbb⟩
    have F10 := Lib.hid (And.intro (bcall F9.out.1 (Nat.le_refl _) hbb) (And.intro (F9.out.2.1.on hbb) (And.intro (F9.out.2.2.1.keep hbb) (And.intro (F9.out.2.2.2.1.below hbb) (And.intro (F9.out.2.2.2.2.1.keep hbb) (And.intro (F9.out.2.2.2.2.2.1.on hbb) (And.intro (F9.out.2.2.2.2.2.2.1.below hbb) ((F9.out.2.2.2.2.2.2.2.1.keep hbb)))))))))
    clear F9
    clear hbb hmk
    go_wp2_with fail
    refine ⟨trivial, ?_⟩
    refine held_reads [3, 4, 5] (g := 2) rfl (by kernel_rfl) trivial (fun _ _ d _ _ h => by cases d <;> exact h) ?_
    simp only [pick, List.getD_cons_zero, List.getD_cons_succ]
    iterate 3 ((with_reducible refine wpRead_step (fun K hK => ?_)); go_simp; first | ((with_reducible refine hK _ ?_); clear hK K) | (apply Exists.intro; (with_reducible refine ⟨fun w' hw' => ?_, hK _ ?_⟩); (skip; go_simp; first | exact rfl | exact ⟨rfl, rfl⟩); clear hK K))
    with_reducible refine wpRead_nil ?_
    refine held_one 6 (by kernel_rfl) ?_
    simp only [pick, List.getD_cons_zero, List.getD_cons_succ]
    go_wp2_with fail
    refine ⟨trivial, ?_⟩
    refine held_one 7 (by kernel_rfl) ?_
    simp only [pick, List.getD_cons_zero, List.getD_cons_succ]
    go_wp2_with fail
    refine ⟨trivial, ?_⟩
    refine wpAnyH_done (by kernel_rfl) ?_ _
    have hc2 : 20 ≤ c2 := by have := F10.out.2.2.2.1.le; omega
    go_wp2_with fail
    refine (get_cut F10.out.2.2.2.1).mono ?_
    rintro e Wc ⟨rfl, hbc⟩
    have hal := (Below.refl Wc.heap.size Wc).alloc (Nat.le_refl _) (.cells #[.int .i64 0, .int .i64 0, .int .i64 0, .slice none 0 0] 24)
    have hbc2 := bcall hbc (Nat.le_refl _) hal
    have F11 := Lib.hid (And.intro (bcall F10.out.1 (Nat.le_refl _) hbc2) (And.intro (F10.out.2.1.on hbc2) (And.intro (F10.out.2.2.1.keep hbc2) (And.intro (F10.out.2.2.2.1.below hbc2) (And.intro (F10.out.2.2.2.2.1.keep hbc2) (And.intro (F10.out.2.2.2.2.2.1.on hbc2) ((F10.out.2.2.2.2.2.2.2.keep hbc2))))))))
    clear F10
    clear hbc hal hbc2 hc2
    obtain ⟨z0, z1, z2, z3⟩ := F11.out.2.1.cells
    obtain ⟨y0, y1, y2, y3⟩ := F11.out.2.2.2.2.2.1.cells
    have hbyte : (Wc.alloc (.cells #[.int .i64 0, .int .i64 0, .int .i64 0, .slice none 0 0] 24)).cell? ⟨b2, o2 + 1, none⟩ = some (.int .u8 10) := by
      obtain ⟨b, o, e, hr⟩ := F11.out.2.2.2.1.sl.row (by omega)
      cases e
      exact hr.get 1 (by decide) 0 (by decide)
    go_wp2_with fail
    generalize Wc.alloc (.cells #[.int .i64 0, .int .i64 0, .int .i64 0, .slice none 0 0] 24) = Wd at *
    clear z0 z1 z2 z3 y0 y1 y2 y3 hbyte
    refine (same_any (p0 (w.heap.size + 1) w.heap.size) ⟨1, 2, 3, ⟨pa, pn, pc, pl⟩⟩ Wd F11.out.2.2.1 F11.out.2.2.2.2.1 rfl rfl rfl HPL.out.symm).mono ?_
    rintro e We ⟨rfl, hbe⟩
    have F12 := Lib.hid (And.intro (bcall F11.out.1 (Nat.le_refl _) hbe) ((F11.out.2.2.2.2.2.2.keep hbe)))
    clear F11
    clear hbe
    go_wp2_with fail
    refine (usual2 _).mono ?_
    rintro e Wf ⟨⟨a10, c10, rfl, hf10⟩, hb10⟩
    obtain ⟨ht10, hc10⟩ := tms1 hf10
    have hbb10 := bcall hb10 (Nat.le_refl _) hc10
    have F13 := Lib.hid (And.intro (bcall F12.out.1 (Nat.le_refl _) hbb10) (And.intro (F12.out.2.keep hbb10) (ht10)))
    clear F12
    clear hf10 hb10 ht10 hc10 hbb10
    go_wp2_with fail
    generalize Wf.alloc (.cells #[.int .i64 300, .slice a10 2 c10] 41) = Wg at *
    generalize Wf.heap.size = q10 at *
    refine (same_tms F13.out.2.1 F13.out.2.2 (tj_eq F13.out.2.1 HX7.out)).mono ?_
    rintro e Wh ⟨rfl, hbh⟩
    have F14 := Lib.hid ((bcall F13.out.1 (Nat.le_refl _) hbh))
    clear F13
    clear hbh
    go_wp2_with fail
    refine (usual2 _).mono ?_
    rintro e Wi ⟨⟨a11, c11, rfl, hf11⟩, hb11⟩
    have F15 := Lib.hid (And.intro (bcall F14.out (Nat.le_refl _) hb11) (hf11))
    clear F14
    clear hf11 hb11
    go_wp2_with fail
    refine (size_usual F15.out.2).mono ?_
    rintro e Wj ⟨rfl, hbj⟩
    have F16 := Lib.hid ((bcall F15.out.1 (Nat.le_refl _) hbj))
    clear F15
    clear hbj
    go_wp2_with fail
    refine (check_neg _).mono ?_
    rintro e Wk ⟨rfl, hbk⟩
    have F17 := Lib.hid ((bcall F16.out (Nat.le_refl _) hbk))
    clear F16
    clear hbk
    go_wp2_with fail
    go_ret
    exact ⟨rfl, F17.out⟩
  · simp only [pick, List.getD_cons_zero, List.getD_cons_succ]
    have hal := (Below.refl W8.heap.size W8).alloc (Nat.le_refl _) (.cells #[.int .u8 0, .int .u8 0, .int .u8 0, .int .u8 0, .int .u8 0, .int .u8 0, .int .u8 0, .int .u8 0, .int .u8 0, .int .u8 0, .int .u8 0, .int .u8 0, .int .u8 0, .int .u8 0, .int .u8 0, .int .u8 0, .int .u8 0] 5)
    have hz := zeros17 W8
    have F18 := Lib.hid (And.intro (bcall F7.out.1 (Nat.le_refl _) hal) (And.intro (F7.out.2.1.on hal) (And.intro (F7.out.2.2.1.keep hal) (And.intro (F7.out.2.2.2.1.below hal) (And.intro (F7.out.2.2.2.2.1.keep hal) (And.intro (F7.out.2.2.2.2.2.1.on hal) (And.intro (F7.out.2.2.2.2.2.2.1.below hal) (And.intro (F7.out.2.2.2.2.2.2.2.keep hal) (hz)))))))))
    clear F7
    clear hal hz
    go_wp2_with fail
    generalize W8.alloc (.cells #[.int .u8 0, .int .u8 0, .int .u8 0, .int .u8 0, .int .u8 0, .int .u8 0, .int .u8 0, .int .u8 0, .int .u8 0, .int .u8 0, .int .u8 0, .int .u8 0, .int .u8 0, .int .u8 0, .int .u8 0, .int .u8 0, .int .u8 0] 5) = W9 at *
    generalize W8.heap.size = qz at *
    refine ⟨trivial, ?_⟩
    refine held_one 0 (by kernel_rfl) ?_
    simp only [pick, List.getD_cons_zero]
    go_wp2_with fail
    refine (usual2 _).mono ?_
    rintro e Wa ⟨⟨a9, c9, rfl, hf9⟩, hb9⟩
    have F19 := Lib.hid (And.intro (bcall F18.out.1 (Nat.le_refl _) hb9) (And.intro (F18.out.2.1.on hb9) (And.intro (F18.out.2.2.1.keep hb9) (And.intro (F18.out.2.2.2.1.below hb9) (And.intro (F18.out.2.2.2.2.1.keep hb9) (And.intro (F18.out.2.2.2.2.2.1.on hb9) (And.intro (F18.out.2.2.2.2.2.2.1.below hb9) (And.intro (F18.out.2.2.2.2.2.2.2.1.keep hb9) (And.intro (F18.out.2.2.2.2.2.2.2.2.below hb9) (hf9))))))))))
    clear F18
    clear hf9 hb9
    go_wp2_with fail
    refine ⟨trivial, ?_⟩
    refine held_one 2 (by kernel_rfl) ?_
    simp only [pick, List.getD_cons_zero, List.getD_cons_succ]
    go_wp2_with fail
    refine (recs17 F19.out.2.2.2.2.2.2.2.2.2 F19.out.2.2.2.2.2.2.2.2.1).mono ?_
    rintro e Wb ⟨⟨oab, cb, rfl⟩, hbb⟩
    have F20 := Lib.hid (And.intro (bcall F19.out.1 (Nat.le_refl _) hbb) (And.intro (F19.out.2.1.on hbb) (And.intro (F19.out.2.2.1.keep hbb) (And.intro (F19.out.2.2.2.1.below hbb) (And.intro (F19.out.2.2.2.2.1.keep hbb) (And.intro (F19.out.2.2.2.2.2.1.on hbb) (And.intro (F19.out.2.2.2.2.2.2.1.below hbb) ((F19.out.2.2.2.2.2.2.2.1.keep hbb)))))))))
    clear F19
    clear hbb hmk
    go_wp2_with fail
    refine ⟨trivial, ?_⟩
    refine held_reads [3, 4, 5] (g := 2) rfl (by kernel_rfl) trivial (fun _ _ d _ _ h => by cases d <;> exact h) ?_
    simp only [pick, List.getD_cons_zero, List.getD_cons_succ]
    iterate 3 ((with_reducible refine wpRead_step (fun K hK => ?_)); go_simp; first | ((with_reducible refine hK _ ?_); clear hK K) | (apply Exists.intro; (with_reducible refine ⟨fun w' hw' => ?_, hK _ ?_⟩); (skip; go_simp; first | exact rfl | exact ⟨rfl, rfl⟩); clear hK K))
    with_reducible refine wpRead_nil ?_
    refine held_one 6 (by kernel_rfl) ?_
    simp only [pick, List.getD_cons_zero, List.getD_cons_succ]
    go_wp2_with fail
    refine ⟨trivial, ?_⟩
    refine held_one 7 (by kernel_rfl) ?_
    simp only [pick, List.getD_cons_zero, List.getD_cons_succ]
    go_wp2_with fail
    refine ⟨trivial, ?_⟩
    refine wpAnyH_done (by kernel_rfl) ?_ _
    have hc2 : 20 ≤ c2 := by have := F20.out.2.2.2.1.le; omega
    go_wp2_with fail
    refine (get_cut F20.out.2.2.2.1).mono ?_
    rintro e Wc ⟨rfl, hbc⟩
    have hal := (Below.refl Wc.heap.size Wc).alloc (Nat.le_refl _) (.cells #[.int .i64 0, .int .i64 0, .int .i64 0, .slice none 0 0] 24)
    have hbc2 := bcall hbc (Nat.le_refl _) hal
    have F21 := Lib.hid (And.intro (bcall F20.out.1 (Nat.le_refl _) hbc2) (And.intro (F20.out.2.1.on hbc2) (And.intro (F20.out.2.2.1.keep hbc2) (And.intro (F20.out.2.2.2.1.below hbc2) (And.intro (F20.out.2.2.2.2.1.keep hbc2) (And.intro (F20.out.2.2.2.2.2.1.on hbc2) ((F20.out.2.2.2.2.2.2.2.keep hbc2))))))))
    clear F20
    clear hbc hal hbc2 hc2
    obtain ⟨z0, z1, z2, z3⟩ := F21.out.2.1.cells
    obtain ⟨y0, y1, y2, y3⟩ := F21.out.2.2.2.2.2.1.cells
    have hbyte : (Wc.alloc (.cells #[.int .i64 0, .int .i64 0, .int .i64 0, .slice none 0 0] 24)).cell? ⟨b2, o2 + 1, none⟩ = some (.int .u8 10) := by
      obtain ⟨b, o, e, hr⟩ := F21.out.2.2.2.1.sl.row (by omega)
      cases e
      exact hr.get 1 (by decide) 0 (by decide)
    go_wp2_with fail
    generalize Wc.alloc (.cells #[.int .i64 0, .int .i64 0, .int .i64 0, .slice none 0 0] 24) = Wd at *
    clear z0 z1 z2 z3 y0 y1 y2 y3 hbyte
    refine (same_any (p0 (w.heap.size + 1) w.heap.size) ⟨1, 2, 3, ⟨pa, pn, pc, pl⟩⟩ Wd F21.out.2.2.1 F21.out.2.2.2.2.1 rfl rfl rfl HPL.out.symm).mono ?_
    rintro e We ⟨rfl, hbe⟩
    have F22 := Lib.hid (And.intro (bcall F21.out.1 (Nat.le_refl _) hbe) ((F21.out.2.2.2.2.2.2.keep hbe)))
    clear F21
    clear hbe
    go_wp2_with fail
    refine (usual2 _).mono ?_
    rintro e Wf ⟨⟨a10, c10, rfl, hf10⟩, hb10⟩
    obtain ⟨ht10, hc10⟩ := tms1 hf10
    have hbb10 := bcall hb10 (Nat.le_refl _) hc10
    have F23 := Lib.hid (And.intro (bcall F22.out.1 (Nat.le_refl _) hbb10) (And.intro (F22.out.2.keep hbb10) (ht10)))
    clear F22
    clear hf10 hb10 ht10 hc10 hbb10
    go_wp2_with fail
    generalize Wf.alloc (.cells #[.int .i64 300, .slice a10 2 c10] 41) = Wg at *
    generalize Wf.heap.size = q10 at *
    refine (same_tms F23.out.2.1 F23.out.2.2 (tj_eq F23.out.2.1 HX7.out)).mono ?_
    rintro e Wh ⟨rfl, hbh⟩
    have F24 := Lib.hid ((bcall F23.out.1 (Nat.le_refl _) hbh))
    clear F23
    clear hbh
    go_wp2_with fail
    refine (usual2 _).mono ?_
    rintro e Wi ⟨⟨a11, c11, rfl, hf11⟩, hb11⟩
    have F25 := Lib.hid (And.intro (bcall F24.out (Nat.le_refl _) hb11) (hf11))
    clear F24
    clear hf11 hb11
    go_wp2_with fail
    refine (size_usual F25.out.2).mono ?_
    rintro e Wj ⟨rfl, hbj⟩
    have F26 := Lib.hid ((bcall F25.out.1 (Nat.le_refl _) hbj))
    clear F25
    clear hbj
    go_wp2_with fail
    refine (check_neg _).mono ?_
    rintro e Wk ⟨rfl, hbk⟩
    have F27 := Lib.hid ((bcall F26.out (Nat.le_refl _) hbk))
    clear F26
    clear hbk
    go_wp2_with fail
    go_ret
    exact ⟨rfl, F27.out⟩
end Go.Proofs.Ytjjhnnnpikfjpaa
