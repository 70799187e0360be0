/- slices.SortFunc of detours, of timers, of counts, by the library's contract. -/
import Derived.Shelf.SlLaysF0
import Derived.Test.YtfmehahjjgalfaaProg
import Derived.Test.YtfmehahjjgalfaaQaa
import Derived.Test.YtfmehahjjgalfaaQad
namespace Go.Proofs.Ytfmehahjjgalfaa
open Go.Shelf
def sortOv_ren : Go.Shelf.Ren := ⟨fun | 6 => 92 | 15 => 86 | 14 => 112 | 28 => 107 | 29 => 108 | 20 => 127 | 21 => 128 | 22 => 129 | 23 => 130 | 24 => 131 | 25 => 132 | 26 => 133 | 27 => 134 | 46 => 139 | 47 => 123 | 48 => 124 | 49 => 140 | 50 => 141 | 57 => 143 | n => n, fun | 22 => 53 | 24 => 62 | 25 => 148 | 3 => 3 | 39 => 74 | 0 => 0 | 53 => 56 | 55 => 161 | 4 => 4 | 46 => 154 | 45 => 153 | 50 => 40 | 5 => 5 | 9 => 9 | 66 => 171 | 70 => 175 | 76 => 184 | 77 => 185 | n => n, fun  | n => n⟩
theorem sortOv : SlLaysF0.n6 Try.prog sortOv_ren := {
  mixed := by kernel_rfl
  f6 := ⟨Try.f92.name, by decide, Try.func92.trans (congrArg some (by kernel_rfl))⟩
  f14 := ⟨Try.f112.name, by decide, Try.func112.trans (congrArg some (by kernel_rfl))⟩
  f15 := Try.func86.trans (congrArg some (by kernel_rfl))
  f20 := ⟨Try.f127.name, by decide, Try.func127.trans (congrArg some (by kernel_rfl))⟩
  f21 := ⟨Try.f128.name, by decide, Try.func128.trans (congrArg some (by kernel_rfl))⟩
  f22 := ⟨Try.f129.name, by decide, Try.func129.trans (congrArg some (by kernel_rfl))⟩
  f23 := ⟨Try.f130.name, by decide, Try.func130.trans (congrArg some (by kernel_rfl))⟩
  f24 := ⟨Try.f131.name, by decide, Try.func131.trans (congrArg some (by kernel_rfl))⟩
  f25 := ⟨Try.f132.name, by decide, Try.func132.trans (congrArg some (by kernel_rfl))⟩
  f26 := ⟨Try.f133.name, by decide, Try.func133.trans (congrArg some (by kernel_rfl))⟩
  f27 := ⟨Try.f134.name, by decide, Try.func134.trans (congrArg some (by kernel_rfl))⟩
  f28 := Try.func107.trans (congrArg some (by kernel_rfl))
  f29 := Try.func108.trans (congrArg some (by kernel_rfl))
  f46 := ⟨Try.f139.name, by decide, Try.func139.trans (congrArg some (by kernel_rfl))⟩
  f47 := Try.func123.trans (congrArg some (by kernel_rfl))
  f48 := Try.func124.trans (congrArg some (by kernel_rfl))
  f49 := ⟨Try.f140.name, by decide, Try.func140.trans (congrArg some (by kernel_rfl))⟩
  f50 := ⟨Try.f141.name, by decide, Try.func141.trans (congrArg some (by kernel_rfl))⟩
  f57 := ⟨Try.f143.name, by decide, Try.func143.trans (congrArg some (by kernel_rfl))⟩
  t0 := Try.underlying0
  a0 := Try.isAgg0
  z0 := Try.sizeOf0
  v0 := Try.zeroValue0
  t3 := Try.underlying3
  a3 := Try.isAgg3
  z3 := Try.sizeOf3
  v3 := Try.zeroValue3
  t4 := Try.underlying4
  a4 := Try.isAgg4
  z4 := Try.sizeOf4
  v4 := Try.zeroValue4
  t5 := Try.underlying5
  a5 := Try.isAgg5
  z5 := Try.sizeOf5
  v5 := Try.zeroValue5
  t9 := Try.underlying9
  a9 := Try.isAgg9
  z9 := Try.sizeOf9
  v9 := Try.zeroValue9
  t22 := Try.underlying53
  a22 := Try.isAgg53
  z22 := Try.sizeOf53
  v22 := Try.zeroValue53
  t25 := Try.underlying148
  a25 := Try.isAgg148
  z25 := Try.sizeOf148
  v25 := Try.zeroValue148
  t39 := Try.underlying74
  a39 := Try.isAgg74
  z39 := Try.sizeOf74
  v39 := Try.zeroValue74
  t45 := Try.underlying153
  a45 := Try.isAgg153
  z45 := Try.sizeOf153
  v45 := Try.zeroValue153
  t46 := Try.underlying154
  a46 := Try.isAgg154
  z46 := Try.sizeOf154
  v46 := Try.zeroValue154
  t50 := Try.underlying40
  a50 := Try.isAgg40
  z50 := Try.sizeOf40
  v50 := Try.zeroValue40
  t53 := Try.underlying56
  a53 := Try.isAgg56
  z53 := Try.sizeOf56
  v53 := Try.zeroValue56
  t55 := Try.underlying161
  a55 := Try.isAgg161
  z55 := Try.sizeOf161
  v55 := Try.zeroValue161
  t66 := Try.underlying171
  a66 := Try.isAgg171
  z66 := Try.sizeOf171
  v66 := Try.zeroValue171
  t70 := Try.underlying175
  a70 := Try.isAgg175
  z70 := Try.sizeOf175
  v70 := Try.zeroValue175
  t76 := Try.underlying184
  a76 := Try.isAgg184
  z76 := Try.sizeOf184
  v76 := Try.zeroValue184
  t77 := Try.underlying185
  a77 := Try.isAgg185
  z77 := Try.sizeOf185
  v77 := Try.zeroValue185 }
def sortTm_ren : Go.Shelf.Ren := ⟨fun | 6 => 63 | 15 => 86 | 14 => 85 | 28 => 107 | 29 => 108 | 20 => 99 | 21 => 100 | 22 => 101 | 23 => 102 | 24 => 103 | 25 => 104 | 26 => 105 | 27 => 106 | 46 => 122 | 47 => 123 | 48 => 124 | 49 => 125 | 50 => 126 | 57 => 138 | n => n, fun | 22 => 38 | 24 => 31 | 25 => 112 | 3 => 3 | 39 => 74 | 0 => 0 | 53 => 56 | 55 => 161 | 4 => 4 | 46 => 154 | 45 => 153 | 50 => 40 | 5 => 5 | 9 => 9 | 66 => 171 | 70 => 175 | 76 => 184 | 77 => 185 | n => n, fun  | n => n⟩
theorem sortTm : SlLaysF0.n6 Try.prog sortTm_ren := {
  mixed := by kernel_rfl
  f6 := ⟨Try.f63.name, by decide, Try.func63.trans (congrArg some (by kernel_rfl))⟩
  f14 := ⟨Try.f85.name, by decide, Try.func85.trans (congrArg some (by kernel_rfl))⟩
  f15 := Try.func86.trans (congrArg some (by kernel_rfl))
  f20 := ⟨Try.f99.name, by decide, Try.func99.trans (congrArg some (by kernel_rfl))⟩
  f21 := ⟨Try.f100.name, by decide, Try.func100.trans (congrArg some (by kernel_rfl))⟩
  f22 := ⟨Try.f101.name, by decide, Try.func101.trans (congrArg some (by kernel_rfl))⟩
  f23 := ⟨Try.f102.name, by decide, Try.func102.trans (congrArg some (by kernel_rfl))⟩
  f24 := ⟨Try.f103.name, by decide, Try.func103.trans (congrArg some (by kernel_rfl))⟩
  f25 := ⟨Try.f104.name, by decide, Try.func104.trans (congrArg some (by kernel_rfl))⟩
  f26 := ⟨Try.f105.name, by decide, Try.func105.trans (congrArg some (by kernel_rfl))⟩
  f27 := ⟨Try.f106.name, by decide, Try.func106.trans (congrArg some (by kernel_rfl))⟩
  f28 := Try.func107.trans (congrArg some (by kernel_rfl))
  f29 := Try.func108.trans (congrArg some (by kernel_rfl))
  f46 := ⟨Try.f122.name, by decide, Try.func122.trans (congrArg some (by kernel_rfl))⟩
  f47 := Try.func123.trans (congrArg some (by kernel_rfl))
  f48 := Try.func124.trans (congrArg some (by kernel_rfl))
  f49 := ⟨Try.f125.name, by decide, Try.func125.trans (congrArg some (by kernel_rfl))⟩
  f50 := ⟨Try.f126.name, by decide, Try.func126.trans (congrArg some (by kernel_rfl))⟩
  f57 := ⟨Try.f138.name, by decide, Try.func138.trans (congrArg some (by kernel_rfl))⟩
  t0 := Try.underlying0
  a0 := Try.isAgg0
  z0 := Try.sizeOf0
  v0 := Try.zeroValue0
  t3 := Try.underlying3
  a3 := Try.isAgg3
  z3 := Try.sizeOf3
  v3 := Try.zeroValue3
  t4 := Try.underlying4
  a4 := Try.isAgg4
  z4 := Try.sizeOf4
  v4 := Try.zeroValue4
  t5 := Try.underlying5
  a5 := Try.isAgg5
  z5 := Try.sizeOf5
  v5 := Try.zeroValue5
  t9 := Try.underlying9
  a9 := Try.isAgg9
  z9 := Try.sizeOf9
  v9 := Try.zeroValue9
  t22 := Try.underlying38
  a22 := Try.isAgg38
  z22 := Try.sizeOf38
  v22 := Try.zeroValue38
  t25 := Try.underlying112
  a25 := Try.isAgg112
  z25 := Try.sizeOf112
  v25 := Try.zeroValue112
  t39 := Try.underlying74
  a39 := Try.isAgg74
  z39 := Try.sizeOf74
  v39 := Try.zeroValue74
  t45 := Try.underlying153
  a45 := Try.isAgg153
  z45 := Try.sizeOf153
  v45 := Try.zeroValue153
  t46 := Try.underlying154
  a46 := Try.isAgg154
  z46 := Try.sizeOf154
  v46 := Try.zeroValue154
  t50 := Try.underlying40
  a50 := Try.isAgg40
  z50 := Try.sizeOf40
  v50 := Try.zeroValue40
  t53 := Try.underlying56
  a53 := Try.isAgg56
  z53 := Try.sizeOf56
  v53 := Try.zeroValue56
  t55 := Try.underlying161
  a55 := Try.isAgg161
  z55 := Try.sizeOf161
  v55 := Try.zeroValue161
  t66 := Try.underlying171
  a66 := Try.isAgg171
  z66 := Try.sizeOf171
  v66 := Try.zeroValue171
  t70 := Try.underlying175
  a70 := Try.isAgg175
  z70 := Try.sizeOf175
  v70 := Try.zeroValue175
  t76 := Try.underlying184
  a76 := Try.isAgg184
  z76 := Try.sizeOf184
  v76 := Try.zeroValue184
  t77 := Try.underlying185
  a77 := Try.isAgg185
  z77 := Try.sizeOf185
  v77 := Try.zeroValue185 }
def sortCt_ren : Go.Shelf.Ren := ⟨fun | 6 => 81 | 15 => 86 | 14 => 97 | 28 => 107 | 29 => 108 | 20 => 113 | 21 => 114 | 22 => 115 | 23 => 116 | 24 => 117 | 25 => 118 | 26 => 119 | 27 => 120 | 46 => 135 | 47 => 123 | 48 => 124 | 49 => 136 | 50 => 137 | 57 => 142 | n => n, fun | 22 => 80 | 24 => 128 | 25 => 141 | 3 => 3 | 39 => 74 | 0 => 0 | 53 => 56 | 55 => 161 | 4 => 4 | 46 => 154 | 45 => 153 | 50 => 40 | 5 => 5 | 9 => 9 | 66 => 171 | 70 => 175 | 76 => 184 | 77 => 185 | n => n, fun  | n => n⟩
theorem sortCt : SlLaysF0.n6 Try.prog sortCt_ren := {
  mixed := by kernel_rfl
  f6 := ⟨Try.f81.name, by decide, Try.func81.trans (congrArg some (by kernel_rfl))⟩
  f14 := ⟨Try.f97.name, by decide, Try.func97.trans (congrArg some (by kernel_rfl))⟩
  f15 := Try.func86.trans (congrArg some (by kernel_rfl))
  f20 := ⟨Try.f113.name, by decide, Try.func113.trans (congrArg some (by kernel_rfl))⟩
  f21 := ⟨Try.f114.name, by decide, Try.func114.trans (congrArg some (by kernel_rfl))⟩
  f22 := ⟨Try.f115.name, by decide, Try.func115.trans (congrArg some (by kernel_rfl))⟩
  f23 := ⟨Try.f116.name, by decide, Try.func116.trans (congrArg some (by kernel_rfl))⟩
  f24 := ⟨Try.f117.name, by decide, Try.func117.trans (congrArg some (by kernel_rfl))⟩
  f25 := ⟨Try.f118.name, by decide, Try.func118.trans (congrArg some (by kernel_rfl))⟩
  f26 := ⟨Try.f119.name, by decide, Try.func119.trans (congrArg some (by kernel_rfl))⟩
  f27 := ⟨Try.f120.name, by decide, Try.func120.trans (congrArg some (by kernel_rfl))⟩
  f28 := Try.func107.trans (congrArg some (by kernel_rfl))
  f29 := Try.func108.trans (congrArg some (by kernel_rfl))
  f46 := ⟨Try.f135.name, by decide, Try.func135.trans (congrArg some (by kernel_rfl))⟩
  f47 := Try.func123.trans (congrArg some (by kernel_rfl))
  f48 := Try.func124.trans (congrArg some (by kernel_rfl))
  f49 := ⟨Try.f136.name, by decide, Try.func136.trans (congrArg some (by kernel_rfl))⟩
  f50 := ⟨Try.f137.name, by decide, Try.func137.trans (congrArg some (by kernel_rfl))⟩
  f57 := ⟨Try.f142.name, by decide, Try.func142.trans (congrArg some (by kernel_rfl))⟩
  t0 := Try.underlying0
  a0 := Try.isAgg0
  z0 := Try.sizeOf0
  v0 := Try.zeroValue0
  t3 := Try.underlying3
  a3 := Try.isAgg3
  z3 := Try.sizeOf3
  v3 := Try.zeroValue3
  t4 := Try.underlying4
  a4 := Try.isAgg4
  z4 := Try.sizeOf4
  v4 := Try.zeroValue4
  t5 := Try.underlying5
  a5 := Try.isAgg5
  z5 := Try.sizeOf5
  v5 := Try.zeroValue5
  t9 := Try.underlying9
  a9 := Try.isAgg9
  z9 := Try.sizeOf9
  v9 := Try.zeroValue9
  t22 := Try.underlying80
  a22 := Try.isAgg80
  z22 := Try.sizeOf80
  v22 := Try.zeroValue80
  t25 := Try.underlying141
  a25 := Try.isAgg141
  z25 := Try.sizeOf141
  v25 := Try.zeroValue141
  t39 := Try.underlying74
  a39 := Try.isAgg74
  z39 := Try.sizeOf74
  v39 := Try.zeroValue74
  t45 := Try.underlying153
  a45 := Try.isAgg153
  z45 := Try.sizeOf153
  v45 := Try.zeroValue153
  t46 := Try.underlying154
  a46 := Try.isAgg154
  z46 := Try.sizeOf154
  v46 := Try.zeroValue154
  t50 := Try.underlying40
  a50 := Try.isAgg40
  z50 := Try.sizeOf40
  v50 := Try.zeroValue40
  t53 := Try.underlying56
  a53 := Try.isAgg56
  z53 := Try.sizeOf56
  v53 := Try.zeroValue56
  t55 := Try.underlying161
  a55 := Try.isAgg161
  z55 := Try.sizeOf161
  v55 := Try.zeroValue161
  t66 := Try.underlying171
  a66 := Try.isAgg171
  z66 := Try.sizeOf171
  v66 := Try.zeroValue171
  t70 := Try.underlying175
  a70 := Try.isAgg175
  z70 := Try.sizeOf175
  v70 := Try.zeroValue175
  t76 := Try.underlying184
  a76 := Try.isAgg184
  z76 := Try.sizeOf184
  v76 := Try.zeroValue184
  t77 := Try.underlying185
  a77 := Try.isAgg185
  z77 := Try.sizeOf185
  v77 := Try.zeroValue185 }
end Go.Proofs.Ytfmehahjjgalfaa
/- append onto a slice that is full: what it gives lies in a new block. -/
namespace Go.Proofs.Ytfmehahjjgalfaa
open Go Go.RowKit
namespace Rep
variable {α : Type} [Inhabited α] {R : Rep α} {P : Program} {ops : Array Oper} {rest : List Oper} {o : Oper} {a : Act} {Q : Exit → Act → World → Prop} {w : World}
theorem run_append_cut {t ty : TypeId} {bytes : Nat} (hT : Ty P t R bytes) {sa : Option Addr} {k : Nat} {L : List α} (hL : R.Sl w sa k k L) {sb : Option Addr} {m c : Nat} {M : List α} (hM : R.Sl w sb m c M) (h0 : 0 < m)
    (hmax : k + m ≤ maxLen) (hbytes : (k + m) * bytes ≤ 140737488355328) :
    ∃ v' w', (Builtin.append_ #[t, t] ty #[.slice sa k k, .slice sb m c]).run P w = .ok v' w' ∧ R.Own w' w.heap.size v' (L ++ M) ∧ Below w.heap.size w w' := by
  obtain ⟨b, off, rfl, hr⟩ := hM.row h0
  cases sa with
  | none =>
    have hk : k = 0 := by
      rcases Nat.eq_zero_or_pos k with h | h
      · exact h
      · obtain ⟨_, _, e, _⟩ := hL.row h; cases e
    subst hk
    obtain rfl : L = [] := List.length_eq_zero_iff.1 hL.len.symm
    obtain ⟨v', w', e1, e2, e3, _⟩ := run_append_list (ty := ty) hT (Own.nil (R := R) w w.heap.size) hM (fun h => by cases h) (by simpa using hmax) (by simpa using hbytes) (Nat.le_refl _)
    exact ⟨v', w', e1, e2, e3⟩
  | some ad =>
    obtain ⟨i, z, h1, h2, h3, h4, h5⟩ := hT.hi
    have holds : ∀ j u, (R.flat L)[j]? = some u → w.cell? (ad.add j) = some u := by
      rcases Nat.eq_zero_or_pos k with hk | hk
      · obtain rfl : L = [] := List.length_eq_zero_iff.1 (hL.len.symm.trans hk)
        intro j u hu; simp [flat] at hu
      · obtain ⟨b', o', e, hr'⟩ := hL.row hk
        cases e
        exact news_of_row hr'
    have hsmall : k + m ≤ 9223372036854775807 := by simp only [maxLen] at hmax; omega
    have hlo : (R.flat L).length = k * i.size := by rw [R.flat_length, ← hL.len, h3]
    have hln : (R.flat M).length = m * i.size := by rw [R.flat_length, ← hM.len, h3]
    have hrun := run_append_grow (P := P) w t ty R.T i z hT.ht h1 h2 ad k k (R.flat L) hlo holds ⟨b, off, none⟩ m c (R.flat M) hln (news_of_row hr) (by omega) (by omega) (growslice_fits (by omega) (by rw [h4]; exact hbytes))
    have hge := grownCap_ge w (k + m) k R.T
    have hcm : grownCap w (k + m) k R.T ≤ maxLen := grownCap_le_maxLen w (k + m) k R.T hmax
    refine ⟨_, _, hrun, ?_, ((Below.refl w.heap.size w).drew).alloc (Nat.le_refl _) _⟩
    show World.ownsRow _ _ R.T R.k _ (L ++ M).length (R.flat (L ++ M))
    rw [R.flat_append, List.length_append, ← hL.len, ← hM.len]
    refine ⟨by rw [List.length_append, hlo, hln, h3, Nat.add_mul], .inr ⟨w.heap.size, _, _, rfl, Nat.le_refl _, hnew w.drew _, hge, hcm, ?_, ?_⟩⟩
    · simp only [Array.size_append, List.size_toArray, size_zeroCells, h5, hlo, hln, h3, ← Nat.add_mul]
      congr 1
      omega
    · simp only [Array.toList_append, List.append_assoc]
      rw [← List.append_assoc]
      have e : (k + m) * R.k = (R.flat L ++ R.flat M).length := by rw [List.length_append, hlo, hln, h3, Nat.add_mul]
      rw [e]
      exact List.take_left
theorem sl_one {b c : Nat} {y : α} {T : TypeId} {fr : Nat × Nat} (h : w.heap[b]? = some (.cells (R.cells y).toArray T fr)) : R.Sl w (some ⟨b, 0, none⟩) 1 c [y] :=
  ⟨rfl, by unfold maxLen; omega, fun _ => ⟨b, 0, rfl, lt_of_blk h, fun i hi j hj => by
    obtain rfl : i = 0 := by simp at hi; exact hi
    rw [Nat.zero_mul, Nat.zero_add]
    have hs : j < (R.cells y).toArray.size := by simp [R.len, hj]
    rw [cell_of h (Array.getElem?_eq_getElem hs)]
    simp [List.getElem?_eq_getElem (show j < (R.cells y).length by rw [R.len]; exact hj)]⟩⟩
theorem sl_nil {a : Option Addr} {c : Nat} : R.Sl w a 0 c [] := ⟨rfl, by unfold maxLen; omega, fun h => absurd h (Nat.lt_irrefl _)⟩
theorem own_empty {b base : Nat} (h : w.heap[b]? = some (.cells #[] R.T (0, 0))) (hb : base ≤ b) : R.Own w base (.slice (some ⟨b, 0, none⟩) 0 0) [] :=
  ⟨by simp [flat], .inr ⟨b, 0, #[], rfl, hb, h, Nat.le_refl _, by unfold maxLen; omega, by simp, by simp [flat]⟩⟩
theorem Own.sl0 {base : Nat} {v : Value} {L : List α} (h : R.Own w base v L) : ∃ a c, v = .slice a L.length c ∧ R.Sl w a L.length c L ∧ (a = none → c = 0) := by
  rcases h.cases with ⟨rfl, rfl⟩ | ⟨g, cap, rfl, hg, hl, h1, h2, hr, -⟩
  · exact ⟨none, 0, rfl, sl_nil, fun _ => rfl⟩
  · exact ⟨some ⟨g, 0, none⟩, cap, rfl, ⟨rfl, by omega, fun _ => ⟨g, 0, rfl, hr⟩⟩, fun e => by cases e⟩
theorem append_cut {t : TypeId} {bytes : Nat} (hT : Ty P t R bytes) (hgd : o.guard = none) (s x : Operand) (ho : o.op = .call { callee := .builtin .append, args := #[s, x], argTypes := #[t, t] })
    {sa : Option Addr} {k : Nat} {L : List α} (hs : a.eval s = .slice sa k k) (hL : R.Sl w sa k k L) {sb : Option Addr} {m c : Nat} {M : List α} (hx : a.eval x = .slice sb m c) (hM : R.Sl w sb m c M) (h0 : 0 < m)
    (hmax : k + m ≤ maxLen) (hbytes : (k + m) * bytes ≤ 140737488355328)
    (h : ∀ v' w', R.Own w' w.heap.size v' (L ++ M) → Below w.heap.size w w' → wpList P ops Q rest (a.put o.dst v') w') : wpList P ops Q (o :: rest) a w :=
  wpList_plain hgd fun K hK => by
    obtain ⟨v', w', e1, e2, e3⟩ := run_append_cut hT hL hM h0 hmax hbytes (ty := o.type)
    have hk := hK _ _ (h v' w' e2 e3)
    unfold Oper.wp execOp
    simp only [ho, resolve, invoke, builtin, Sem.run_bind, Sem.run_pure, Result.andThen_ok, List.map_toArray, List.map_cons, List.map_nil, hs, hx, e1]
    exact hk
end Rep
end Go.Proofs.Ytfmehahjjgalfaa
/- Those that hold, sorted: All, Expire, Clear. -/
namespace Go.Proofs.Ytfmehahjjgalfaa
open Go.RowKit
open Go.ChangeMaps (setBlock)

def cmpO (x y : Ov) : Int := cmpK x.key y.key
theorem swoO : Go.Sort.SWO (Go.Proofs.ltOf cmpO) := by
  have h : ∀ x y : Ov, Go.Proofs.ltOf cmpO x y = ltO x y := by
    intro x y
    unfold Go.Proofs.ltOf cmpO ltO
    have := @cmpK_lt x.key y.key
    cases hh : ltK x.key y.key with
    | true => rw [hh] at this; simpa using this
    | false => rw [hh] at this; simpa using this
  refine ⟨fun x => by rw [h]; exact ltK_irr _, fun x y z h1 h2 => by rw [h] at *; exact ltK_trans h1 h2, fun x y z h1 h2 => ?_⟩
  rw [h] at *
  unfold ltO at *
  rw [Bool.eq_false_iff] at *
  rw [ne_eq, ltK_iff] at *
  omega
theorem T53 : Rep.Ty Try.prog 53 ROv 40 := Rep.Ty.mk' (z := .agg #[.int .i64 0, .int .u32 0, .int .i64 0, .int .i64 0, .int .i64 0]) Try.underlying53 (by kernel_rfl) rfl
set_option maxRecDepth 100000 in
set_option maxHeartbeats 1000000 in
theorem cmpO_lays (g n : Nat) (w : World) : Go.Proofs.CmpLays Try.prog 93 #[] ROv.cells ROv.k cmpO g 0 n w := by
  intro m os dk _ x y
  generalize Go.Proofs.sortWorldK ROv.cells ROv.k w g 0 m dk os = W
  show Calls Try.prog 93 #[.agg #[.int .i64 x.r, .int .u32 (x.ad : Int), .int .i64 x.ln, .int .i64 x.id, .int .i64 x.till], .agg #[.int .i64 y.r, .int .u32 (y.ad : Int), .int .i64 y.ln, .int .i64 y.id, .int .i64 y.till]] W fun e w' => e = .returned (.int .i64 (cmpO x y)) ∧ Grows W w'
  have hg := ((Grows.refl W).alloc (.cells #[.int .i64 x.r, .int .u32 (x.ad : Int), .int .i64 x.ln, .int .i64 x.id, .int .i64 x.till] 62)).alloc (.cells #[.int .i64 y.r, .int .u32 (y.ad : Int), .int .i64 y.ln, .int .i64 y.id, .int .i64 y.till] 62)
  have hx : OvS W.heap.size x ((W.alloc (.cells #[.int .i64 x.r, .int .u32 (x.ad : Int), .int .i64 x.ln, .int .i64 x.id, .int .i64 x.till] 62)).alloc (.cells #[.int .i64 y.r, .int .u32 (y.ad : Int), .int .i64 y.ln, .int .i64 y.id, .int .i64 y.till] 62)) := hold (hnew _ _)
  have hy : OvS (W.heap.size + 1) y ((W.alloc (.cells #[.int .i64 x.r, .int .u32 (x.ad : Int), .int .i64 x.ln, .int .i64 x.id, .int .i64 x.till] 62)).alloc (.cells #[.int .i64 y.r, .int .u32 (y.ad : Int), .int .i64 y.ln, .int .i64 y.id, .int .i64 y.till] 62)) := hnewAt (by simp)
  obtain ⟨x0, x1, x2, x3, x4⟩ := hx.cells
  obtain ⟨y0, y1, y2, y3, y4⟩ := hy.cells
  have HG := Lib.hid hg
  have HC := Lib.hid (acompare_any x.key y.key)
  unfold cmpO
  generalize cmpK x.key y.key = v at *
  unfold pfx Ov.key at HC
  clear hg hx hy
  go_enter Try.func93, Try.ntmps93
  go_wp2_with fail
  refine (HC.out _).mono ?_
  rintro e w1 ⟨rfl, hw1⟩
  have HG2 := Lib.hid (HG.out.trans hw1)
  clear hw1 x0 x1 x2 x3 x4 y0 y1 y2 y3 y4
  go_wp2_with fail
  go_ret
  exact ⟨rfl, HG2.out⟩
theorem sorted_ord {M : List Ov} (h : Rep.SortedBy cmpO M) (hn : (M.map Ov.key).Nodup) : Ord M := by
  unfold Ord Kl.Ordered
  rw [List.pairwise_iff_getElem]
  intro i j hi hj hij
  have h1 := h i j hij hj
  simp only [List.getD_eq_getElem?_getD, List.getElem?_eq_getElem hi, List.getElem?_eq_getElem hj, Option.getD_some] at h1
  unfold cmpO at h1
  rw [cmpK_ge] at h1
  rw [List.nodup_iff_pairwise_ne, List.pairwise_iff_getElem] at hn
  have h2 := hn i j (by simpa using hi) (by simpa using hj) hij
  simp only [List.getElem_map] at h2
  unfold ltO
  rcases ltK_total M[i].key M[j].key with h | h | h
  · exact h
  · exact absurd h h2
  · rw [h] at h1; cases h1
theorem sorted_is {L M : List Ov} (hL : Ord L) (hp : M.Perm L) (hs : Rep.SortedBy cmpO M) : M = L :=
  Kl.ordered_eq ltO_asymm (sorted_ord hs ((hp.map Ov.key).symm.nodup hL.keys)) hL hp
theorem enters_cl : Go.Proofs.Enters Try.prog 93 := Go.Proofs.enters_of Try.func93 (by decide) rfl
/-- a function tells which hold, in all worlds from w on -/
def Picks (w : World) (F : Nat) (cb : Array Value) (p : Ov → Bool) : Prop := ∀ W, Below w.heap.size w W → ∀ o : Ov, Calls Try.prog F (#[o.v] ++ cb) W fun e w' => e = .returned (.bool (p o)) ∧ Below W.heap.size W w'
theorem Picks.keep {w w' : World} {F : Nat} {cb : Array Value} {p : Ov → Bool} (h : Picks w F cb p) (hb : Below w.heap.size w w') : Picks w' F cb p := fun W hW o => h W (hb.trans (hW.mono hb.size)) o
theorem all_picks (w : World) : Picks w 73 #[] (fun _ => true) := by
  intro W _ o
  have HB := Lib.hid ((Below.refl W.heap.size W).alloc (Nat.le_refl _) (.cells #[.int .i64 o.r, .int .u32 (o.ad : Int), .int .i64 o.ln, .int .i64 o.id, .int .i64 o.till] 62))
  show Calls Try.prog 73 #[.agg #[.int .i64 o.r, .int .u32 (o.ad : Int), .int .i64 o.ln, .int .i64 o.id, .int .i64 o.till]] W _
  go_enter Try.func73, Try.ntmps73
  go_wp2_with fail
  go_ret
  exact ⟨rfl, HB.out⟩
theorem expire_picks {w : World} {b : Nat} {now : Int} (h : w.cell? ⟨b, 0, none⟩ = some (.int .i64 now)) (hb : b < w.heap.size) : Picks w 72 #[.pointer (some ⟨b, 0, none⟩)] (fun o => decide (o.till < now)) := by
  intro W hW o
  have hal := (Below.refl W.heap.size W).alloc (Nat.le_refl _) (.cells #[.int .i64 o.r, .int .u32 (o.ad : Int), .int .i64 o.ln, .int .i64 o.id, .int .i64 o.till] 62)
  have c0 : (W.alloc (.cells #[.int .i64 o.r, .int .u32 (o.ad : Int), .int .i64 o.ln, .int .i64 o.id, .int .i64 o.till] 62)).cell? ⟨b, 0, none⟩ = some (.int .i64 now) := (cell_same (hal.block _ (Nat.lt_of_lt_of_le hb hW.size))).trans ((cell_same (hW.block _ hb)).trans h)
  have hos : OvS W.heap.size o (W.alloc (.cells #[.int .i64 o.r, .int .u32 (o.ad : Int), .int .i64 o.ln, .int .i64 o.id, .int .i64 o.till] 62)) := hnew _ _
  obtain ⟨z0, z1, z2, z3, z4⟩ := hos.cells
  have HB := Lib.hid hal
  clear hal hos h
  show Calls Try.prog 72 #[.agg #[.int .i64 o.r, .int .u32 (o.ad : Int), .int .i64 o.ln, .int .i64 o.id, .int .i64 o.till], .pointer (some ⟨b, 0, none⟩)] W _
  go_enter Try.func72, Try.ntmps72
  go_wp2_with fail
  go_ret
  exact ⟨ret_bool (by simp), HB.out⟩
theorem some_nil (fv : Value) (w : World) : Calls Try.prog 71 #[.pointer none, fv] w fun e w' => e = .returned (.slice none 0 0) ∧ Below w.heap.size w w' := by
  go_enter Try.func71, Try.ntmps71
  go_wp2_with fail
  refine (tmade_nil _).mono ?_
  rintro e W1 ⟨rfl, rfl⟩
  go_wp2_with fail
  go_ret
  exact ⟨rfl, Below.refl _ _⟩
def lenV : Value → Nat
  | .slice _ n _ => n
  | _ => 0
theorem Own_lenV {α : Type} [Inhabited α] {R : Rep α} {w : World} {base : Nat} {v : Value} {L : List α} (h : R.Own w base v L) : lenV v = L.length := by
  rcases h.sl with ⟨a, c, rfl, -⟩; rfl
def seenN (w : World) (b : Nat) : Nat := match w.heap[b]? with
  | some (.mapIter _ _ seen _) => seen.size
  | _ => 0
theorem seenN_of {w : World} {b : Nat} {m : Option Nat} {c : Nat} {seen : Array Nat} {d : Nat} (h : w.heap[b]? = some (.mapIter m c seen d)) : seenN w b = seen.size := by unfold seenN; rw [h]
theorem Ran_len {κ : Type} {l done : List (MR.Ent κ)} {seen : Array Nat} (h : MR.Ran l seen done) (hb : (l.map (·.2.2)).Nodup) : done.length ≤ l.length ∧ seen.size = done.length := by
  refine ⟨?_, by have := congrArg List.length h.seen; simpa using this⟩
  have h1 : done.length ≤ (l.filter fun e => decide (e.2.2 ∈ done.map (·.2.2))).length := by
    have hp : done.Perm (l.filter fun e => decide (e.2.2 ∈ done.map (·.2.2))) := by
      rw [List.perm_ext_iff_of_nodup (MR.nodup_of_map h.nodup) ((MR.nodup_of_map hb).filter _)]
      intro e
      rw [List.mem_filter, decide_eq_true_eq]
      constructor
      · intro he; exact ⟨h.sub e he, List.mem_map.2 ⟨e, he, rfl⟩⟩
      · rintro ⟨h1, h2⟩
        obtain ⟨x, hx, hxe⟩ := List.mem_map.1 h2
        rw [← MR.inj_of_nodup hb (h.sub x hx) h1 hxe]
        exact hx
    exact Nat.le_of_eq hp.length_eq
  exact Nat.le_trans h1 (List.length_filter_le _ _)
theorem filter_snoc {α : Type} (p : α → Bool) (l : List α) (x : α) : (l ++ [x]).filter p = if p x then l.filter p ++ [x] else l.filter p := by
  rw [List.filter_append, List.filter_cons]
  split <;> simp
set_option maxRecDepth 100000 in
set_option maxHeartbeats 4000000 in
theorem some_all {w : World} {t bm : Nat} {L : List Ov} (H : TabAt w t bm L) (hlen : L.length ≤ 4611686) {p : Ov → Bool} (hF : Picks w 73 #[] p) : Calls Try.prog 71 #[.pointer (some ⟨t, 0, none⟩), .func (.func 73) #[] #[]] w fun e w' => ∃ v, e = .returned v ∧ ROv.Own w' w.heap.size v (L.filter p) ∧ Below w.heap.size w w' := by
  have HM := Lib.hid (tmade_any H)
  have c0 := H.c0
  have hlt := H.lt
  obtain ⟨⟨clk, es, k1, k2, k3⟩, ho⟩ := H
  have hrg := MR.run_range PN k2 Try.underlying113
  have hal := (Below.refl w.heap.size w).alloc (Nat.le_refl _) (.mapIter (some bm) clk #[] clk)
  have hit : (w.alloc (.mapIter (some bm) clk #[] clk)).heap[w.heap.size]? = some (.mapIter (some bm) clk #[] clk) := hnew _ _
  have HF := Lib.hid (And.intro k2 (And.intro k3 (And.intro ho (And.intro hlt.2.1 hF))))
  have HLE := Lib.hid (show es.length ≤ 4611686 from by rw [k3.len]; exact hlen)
  have HW := Lib.hid (And.intro hal hit)
  clear k1 k2 k3 ho hal hit hlt hF hlen
  go_enter Try.func71, Try.ntmps71
  go_wp2_with fail
  refine HM.out.mono ?_
  rintro e W1 ⟨rfl, hw⟩
  subst hw
  go_wp2_with fail
  go_loopw [5] (fun ov wr => ∃ (done : List (MR.Ent PK)) (seen : Array Nat), ROv.Own wr (W1.heap.size + 1) ov ((done.map (Kl.ofE Ov.key L)).filter p) ∧ wr.heap[W1.heap.size]? = some (.mapIter (some bm) clk seen clk) ∧ MR.Ran es seen done ∧ Below W1.heap.size W1 wr ∧ W1.heap.size + 1 ≤ wr.heap.size) (fun _ wr => es.length - seenN wr W1.heap.size)
  case atStart => exact ⟨[], #[], Rep.Own.nil _ _, HW.out.2, MR.Ran.none _, HW.out.1, by simp⟩
  case round =>
    obtain ⟨done, seen, hown, hit, hran, hb, hsz⟩ := hrel
    obtain ⟨w2, rfl⟩ : ∃ w2 : World, w2 = wr := ⟨_, rfl⟩
    have hm2 : MR.MapAt PN w2 bm es clk := HF.out.1.blk_iff PN (hb.block _ HF.out.2.2.2.1)
    obtain ⟨hdl, hsd⟩ := Ran_len hran HF.out.1.bnodup
    rcases MR.next_step PN hm2 hit 0 with ⟨hall, hnx⟩ | ⟨e, hein, hens, w3, hnx, hset⟩
    · have hpe := ((hran.all HF.out.1.bnodup hall).map (Kl.ofE Ov.key L)).trans HF.out.2.1.perm
      have hpf := hpe.filter p
      obtain ⟨oa, cc, rfl, -, -⟩ := hown.sl0
      have hbs : W1.heap.size + 1 ≤ w2.heap.size := hsz
      have hln : ((done.map (Kl.ofE Ov.key L)).filter p).length < 4611686018427387904 := by
        have h1 := List.length_filter_le p (done.map (Kl.ofE Ov.key L))
        rw [List.length_map] at h1
        have := HLE.out
        omega
      have HS := Lib.hid (Rep.sort_own (R := ROv) sortOv Try.isAgg62 Try.sizeOf62 cmpO swoO 93 #[] enters_cl hown (fun g => cmpO_lays g _ _) hln hbs)
      have G := Lib.hid (And.intro hpf hb)
      have HO := Lib.hid (HF.out.2.2.1.filter p)
      generalize ((done.map (Kl.ofE Ov.key L)).filter p).length = m at *
      clear hown hm2 hit hran hb hdl hsd hall hpe hpf hln
      go_wp2_with fail
      refine HS.out.mono ?_
      rintro ev w9 ⟨rfl, M, hp, hs, hown9, hb9⟩
      have HE := Lib.hid (show ROv.Own w9 (W1.heap.size + 1) (.slice oa m cc) (L.filter p) ∧ Below W1.heap.size W1 w9 from by
        have := sorted_is HO.out (hp.trans G.out.1) hs
        subst this
        exact ⟨hown9, G.out.2.trans (hb9.mono (Nat.le_succ _))⟩)
      clear hp hs hown9 hb9 HS G HO
      go_wp2_with fail
      go_ret
      exact ⟨_, rfl, HE.out.1.mono (Nat.le_succ _), HE.out.2⟩
    · have hm3 := hm2.blk_iff PN (hset.other (show bm ≠ W1.heap.size from by have := HF.out.2.2.2.1; omega))
      have hen := MR.run_entry PN hm3 hein (hset.at hsz)
      have hent0 := HF.out.2.1.ent hein
      rw [hent0.2.1] at hnx hen
      have hown3 := Rep.Own.but hown (But.of_set hset (bs := [W1.heap.size]) (by simp)) (by simp)
      have hb3 : Below W1.heap.size W1 w3 := hb.trans (hset.below (Nat.le_refl _))
      have hr3 := hran.more hein hens
      have hit3 := hset.at hsz
      have hs3 : W1.heap.size + 1 ≤ w3.heap.size := by rw [hset.size]; exact hsz
      have hms : seenN w2 W1.heap.size = seen.size := seenN_of hit
      have hdl3 := (Ran_len hr3 HF.out.1.bnodup)
      have hme : ((done ++ [e]).map (Kl.ofE Ov.key L)).filter p = if p (Kl.ofE Ov.key L e) then (done.map (Kl.ofE Ov.key L)).filter p ++ [Kl.ofE Ov.key L e] else (done.map (Kl.ofE Ov.key L)).filter p := by
        rw [List.map_append]
        exact filter_snoc p _ _
      have hln : ((done.map (Kl.ofE Ov.key L)).filter p).length ≤ done.length := by
        have h1 := List.length_filter_le p (done.map (Kl.ofE Ov.key L))
        rw [List.length_map] at h1
        exact h1
      obtain ⟨oa, cc, rfl, -, -⟩ := hown.sl0
      obtain ⟨n, hn⟩ : ∃ n, ((done.map (Kl.ofE Ov.key L)).filter p).length = n := ⟨_, rfl⟩
      have HN := Lib.hid hn
      rw [hn] at hown3 hln ⊢
      have HG := Lib.hid (And.intro hown3 (And.intro hr3 (And.intro hb3 (And.intro hs3 (And.intro hit3 (And.intro hme (And.intro hdl3 (And.intro hln hms))))))))
      generalize Kl.ofE Ov.key L e = x at *
      generalize PN.enc e.1 = ke at *
      unfold Ov.v at hnx hen
      clear hown hran hb hdl hsd hm2 hit hm3 hset hens hown3 hr3 hb3 hs3 hit3 hme hdl3 hln hein hent0 hms hn
      go_wp2_with (with_reducible refine halt_store 62 rfl ?_)
      refine Halted.go ?_
      have hal := (Below.refl w3.heap.size w3).alloc (Nat.le_refl _) (.cells #[.int .i64 0, .int .u32 0, .int .i64 0, .int .i64 0, .int .i64 0] 62)
      refine store_whole rfl 62 _ _ rfl w3.heap.size #[.int .i64 x.r, .int .u32 (x.ad : Int), .int .i64 x.ln, .int .i64 x.id, .int .i64 x.till] rfl rfl (hnew _ _) rfl (by kernel_rfl) (by simp [Value.oneCell']) ?_
      intro wz hwz hsz
      have hzb : Below w3.heap.size w3 wz := Below.trans hal (hsz.below (Nat.le_refl _))
      obtain ⟨z0, z1, z2, z3, z4⟩ := OvS.cells (o := x) hwz
      have HZ := Lib.hid (And.intro (HG.out.1.below hzb) (And.intro (show OvS w3.heap.size x wz from hwz) (And.intro (hzb.mono HG.out.2.2.2.1) (And.intro (Nat.le_trans HG.out.2.2.2.1 hzb.size) (HG.out.2.2.1.trans (hzb.mono (Nat.le_of_succ_le HG.out.2.2.2.1)))))))
      clear hwz hsz hal hzb
      have HP := Lib.hid (HF.out.2.2.2.2 wz HZ.out.2.2.2.2 x)
      generalize w3.heap.size = q3 at *
      go_wp2_with fail
      refine HP.out.mono ?_
      rintro ev w9 ⟨rfl, hb9⟩
      have hb19 : Below (W1.heap.size + 1) w3 w9 := HZ.out.2.2.1.trans (hb9.mono HZ.out.2.2.2.1)
      have HJ := Lib.hid (And.intro (HZ.out.1.below hb9) (And.intro hb19 (And.intro (show OvS q3 x w9 from HZ.out.2.1.on (hb9.block _ (lt_of_blk HZ.out.2.1))) (Nat.le_trans HZ.out.2.2.2.1 hb9.size))))
      clear hb9 hb19 HP z0 z1 z2 z3 z4
      obtain ⟨z0, z1, z2, z3, z4⟩ := OvS.cells HJ.out.2.2.1
      cases hpx : p x with
      | false =>
        have HPX := Lib.hid hpx
        clear hpx
        go_wp2_with fail
        obtain ⟨g1, g2, g3, g4, g5, g6, g7, g8, g9⟩ := HG.out
        rw [HPX.out, if_neg (by simp)] at g6
        refine ⟨⟨done ++ [e], seen.push e.2.2, ?_, (HJ.out.2.1.block _ (Nat.lt_succ_self _)).trans g5, g2, g3.trans (HJ.out.2.1.mono (Nat.le_succ _)), HJ.out.2.2.2⟩, ?_⟩
        · rw [g6]; exact HJ.out.1
        · have h5 : seenN w9 W1.heap.size = (seen.push e.2.2).size := seenN_of ((HJ.out.2.1.block _ (Nat.lt_succ_self _)).trans g5)
          have h6 := g7.2
          have h7 := g7.1
          rw [h5, g9]
          rw [Array.size_push] at h6 ⊢
          omega
      | true =>
        have HPX := Lib.hid hpx
        clear hpx
        go_wp2_with (at_builtin; refine halt ?_)
        refine Halted.go ?_
        have hn2 : n ≤ 4611686 := by
          have h1 := HG.out.2.2.2.2.2.2.2.1
          have h2 := HG.out.2.2.2.2.2.2.1.1
          have h3 := HLE.out
          have h4 := HN.out
          rw [List.length_append] at h2
          omega
        have hal := (Below.refl w9.heap.size w9).alloc (Nat.le_refl _) (.cells #[.int .i64 x.r, .int .u32 (x.ad : Int), .int .i64 x.ln, .int .i64 x.id, .int .i64 x.till] 62)
        refine Rep.append_one T53 rfl _ _ rfl rfl (HJ.out.1.below hal) x _ 1 rfl (hnewAt (by simp)) (n := n) HN.out (by unfold maxLen; omega) (by show (n + 1) * 40 ≤ _; omega) (Nat.le_trans HJ.out.2.2.2 hal.size) ?_
        intro v6 w6 hown6 hb6 _
        obtain ⟨o6, c6, rfl, -, -⟩ := hown6.sl0
        obtain ⟨k1, hk1⟩ : ∃ k1, ((done.map (Kl.ofE Ov.key L)).filter p ++ [x]).length = k1 := ⟨_, rfl⟩
        rw [hk1] at hown6 ⊢
        clear hk1
        have hbz : Below (W1.heap.size + 1) w3 w6 := HJ.out.2.1.trans ((hal.mono HJ.out.2.2.2).trans hb6)
        have HK := Lib.hid (And.intro hown6 (And.intro hbz (Nat.le_trans HJ.out.2.2.2 (Nat.le_trans hal.size hb6.size))))
        clear hown6 hb6 hbz hal hn2
        go_wp2_with fail
        obtain ⟨g1, g2, g3, g4, g5, g6, g7, g8, g9⟩ := HG.out
        rw [HPX.out, if_pos rfl] at g6
        refine ⟨⟨done ++ [e], seen.push e.2.2, ?_, (HK.out.2.1.block _ (Nat.lt_succ_self _)).trans g5, g2, g3.trans (HK.out.2.1.mono (Nat.le_succ _)), HK.out.2.2⟩, ?_⟩
        · rw [g6]; exact HK.out.1
        · have h5 : seenN w6 W1.heap.size = (seen.push e.2.2).size := seenN_of ((HK.out.2.1.block _ (Nat.lt_succ_self _)).trans g5)
          have h6 := g7.2
          have h7 := g7.1
          rw [h5, g9]
          rw [Array.size_push] at h6 ⊢
          omega
set_option maxRecDepth 100000 in
set_option maxHeartbeats 4000000 in
theorem some_till {w : World} {t bm : Nat} {L : List Ov} (H : TabAt w t bm L) (hlen : L.length ≤ 4611686) {b : Nat} {p : Ov → Bool} (hF : Picks w 72 #[.pointer (some ⟨b, 0, none⟩)] p) : Calls Try.prog 71 #[.pointer (some ⟨t, 0, none⟩), .func (.func 72) #[] #[.pointer (some ⟨b, 0, none⟩)]] w fun e w' => ∃ v, e = .returned v ∧ ROv.Own w' w.heap.size v (L.filter p) ∧ Below w.heap.size w w' := by
  have HM := Lib.hid (tmade_any H)
  have c0 := H.c0
  have hlt := H.lt
  obtain ⟨⟨clk, es, k1, k2, k3⟩, ho⟩ := H
  have hrg := MR.run_range PN k2 Try.underlying113
  have hal := (Below.refl w.heap.size w).alloc (Nat.le_refl _) (.mapIter (some bm) clk #[] clk)
  have hit : (w.alloc (.mapIter (some bm) clk #[] clk)).heap[w.heap.size]? = some (.mapIter (some bm) clk #[] clk) := hnew _ _
  have HF := Lib.hid (And.intro k2 (And.intro k3 (And.intro ho (And.intro hlt.2.1 hF))))
  have HLE := Lib.hid (show es.length ≤ 4611686 from by rw [k3.len]; exact hlen)
  have HW := Lib.hid (And.intro hal hit)
  clear k1 k2 k3 ho hal hit hlt hF hlen
  go_enter Try.func71, Try.ntmps71
  go_wp2_with fail
  refine HM.out.mono ?_
  rintro e W1 ⟨rfl, hw⟩
  subst hw
  go_wp2_with fail
  go_loopw [5] (fun ov wr => ∃ (done : List (MR.Ent PK)) (seen : Array Nat), ROv.Own wr (W1.heap.size + 1) ov ((done.map (Kl.ofE Ov.key L)).filter p) ∧ wr.heap[W1.heap.size]? = some (.mapIter (some bm) clk seen clk) ∧ MR.Ran es seen done ∧ Below W1.heap.size W1 wr ∧ W1.heap.size + 1 ≤ wr.heap.size) (fun _ wr => es.length - seenN wr W1.heap.size)
  case atStart => exact ⟨[], #[], Rep.Own.nil _ _, HW.out.2, MR.Ran.none _, HW.out.1, by simp⟩
  case round =>
    obtain ⟨done, seen, hown, hit, hran, hb, hsz⟩ := hrel
    obtain ⟨w2, rfl⟩ : ∃ w2 : World, w2 = wr := ⟨_, rfl⟩
    have hm2 : MR.MapAt PN w2 bm es clk := HF.out.1.blk_iff PN (hb.block _ HF.out.2.2.2.1)
    obtain ⟨hdl, hsd⟩ := Ran_len hran HF.out.1.bnodup
    rcases MR.next_step PN hm2 hit 0 with ⟨hall, hnx⟩ | ⟨e, hein, hens, w3, hnx, hset⟩
    · have hpe := ((hran.all HF.out.1.bnodup hall).map (Kl.ofE Ov.key L)).trans HF.out.2.1.perm
      have hpf := hpe.filter p
      obtain ⟨oa, cc, rfl, -, -⟩ := hown.sl0
      have hbs : W1.heap.size + 1 ≤ w2.heap.size := hsz
      have hln : ((done.map (Kl.ofE Ov.key L)).filter p).length < 4611686018427387904 := by
        have h1 := List.length_filter_le p (done.map (Kl.ofE Ov.key L))
        rw [List.length_map] at h1
        have := HLE.out
        omega
      have HS := Lib.hid (Rep.sort_own (R := ROv) sortOv Try.isAgg62 Try.sizeOf62 cmpO swoO 93 #[] enters_cl hown (fun g => cmpO_lays g _ _) hln hbs)
      have G := Lib.hid (And.intro hpf hb)
      have HO := Lib.hid (HF.out.2.2.1.filter p)
      generalize ((done.map (Kl.ofE Ov.key L)).filter p).length = m at *
      clear hown hm2 hit hran hb hdl hsd hall hpe hpf hln
      go_wp2_with fail
      refine HS.out.mono ?_
      rintro ev w9 ⟨rfl, M, hp, hs, hown9, hb9⟩
      have HE := Lib.hid (show ROv.Own w9 (W1.heap.size + 1) (.slice oa m cc) (L.filter p) ∧ Below W1.heap.size W1 w9 from by
        have := sorted_is HO.out (hp.trans G.out.1) hs
        subst this
        exact ⟨hown9, G.out.2.trans (hb9.mono (Nat.le_succ _))⟩)
      clear hp hs hown9 hb9 HS G HO
      go_wp2_with fail
      go_ret
      exact ⟨_, rfl, HE.out.1.mono (Nat.le_succ _), HE.out.2⟩
    · have hm3 := hm2.blk_iff PN (hset.other (show bm ≠ W1.heap.size from by have := HF.out.2.2.2.1; omega))
      have hen := MR.run_entry PN hm3 hein (hset.at hsz)
      have hent0 := HF.out.2.1.ent hein
      rw [hent0.2.1] at hnx hen
      have hown3 := Rep.Own.but hown (But.of_set hset (bs := [W1.heap.size]) (by simp)) (by simp)
      have hb3 : Below W1.heap.size W1 w3 := hb.trans (hset.below (Nat.le_refl _))
      have hr3 := hran.more hein hens
      have hit3 := hset.at hsz
      have hs3 : W1.heap.size + 1 ≤ w3.heap.size := by rw [hset.size]; exact hsz
      have hms : seenN w2 W1.heap.size = seen.size := seenN_of hit
      have hdl3 := (Ran_len hr3 HF.out.1.bnodup)
      have hme : ((done ++ [e]).map (Kl.ofE Ov.key L)).filter p = if p (Kl.ofE Ov.key L e) then (done.map (Kl.ofE Ov.key L)).filter p ++ [Kl.ofE Ov.key L e] else (done.map (Kl.ofE Ov.key L)).filter p := by
        rw [List.map_append]
        exact filter_snoc p _ _
      have hln : ((done.map (Kl.ofE Ov.key L)).filter p).length ≤ done.length := by
        have h1 := List.length_filter_le p (done.map (Kl.ofE Ov.key L))
        rw [List.length_map] at h1
        exact h1
      obtain ⟨oa, cc, rfl, -, -⟩ := hown.sl0
      obtain ⟨n, hn⟩ : ∃ n, ((done.map (Kl.ofE Ov.key L)).filter p).length = n := ⟨_, rfl⟩
      have HN := Lib.hid hn
      rw [hn] at hown3 hln ⊢
      have HG := Lib.hid (And.intro hown3 (And.intro hr3 (And.intro hb3 (And.intro hs3 (And.intro hit3 (And.intro hme (And.intro hdl3 (And.intro hln hms))))))))
      generalize Kl.ofE Ov.key L e = x at *
      generalize PN.enc e.1 = ke at *
      unfold Ov.v at hnx hen
      clear hown hran hb hdl hsd hm2 hit hm3 hset hens hown3 hr3 hb3 hs3 hit3 hme hdl3 hln hein hent0 hms hn
      go_wp2_with (with_reducible refine halt_store 62 rfl ?_)
      refine Halted.go ?_
      have hal := (Below.refl w3.heap.size w3).alloc (Nat.le_refl _) (.cells #[.int .i64 0, .int .u32 0, .int .i64 0, .int .i64 0, .int .i64 0] 62)
      refine store_whole rfl 62 _ _ rfl w3.heap.size #[.int .i64 x.r, .int .u32 (x.ad : Int), .int .i64 x.ln, .int .i64 x.id, .int .i64 x.till] rfl rfl (hnew _ _) rfl (by kernel_rfl) (by simp [Value.oneCell']) ?_
      intro wz hwz hsz
      have hzb : Below w3.heap.size w3 wz := Below.trans hal (hsz.below (Nat.le_refl _))
      obtain ⟨z0, z1, z2, z3, z4⟩ := OvS.cells (o := x) hwz
      have HZ := Lib.hid (And.intro (HG.out.1.below hzb) (And.intro (show OvS w3.heap.size x wz from hwz) (And.intro (hzb.mono HG.out.2.2.2.1) (And.intro (Nat.le_trans HG.out.2.2.2.1 hzb.size) (HG.out.2.2.1.trans (hzb.mono (Nat.le_of_succ_le HG.out.2.2.2.1)))))))
      clear hwz hsz hal hzb
      have HP := Lib.hid (HF.out.2.2.2.2 wz HZ.out.2.2.2.2 x)
      generalize w3.heap.size = q3 at *
      go_wp2_with fail
      refine HP.out.mono ?_
      rintro ev w9 ⟨rfl, hb9⟩
      have hb19 : Below (W1.heap.size + 1) w3 w9 := HZ.out.2.2.1.trans (hb9.mono HZ.out.2.2.2.1)
      have HJ := Lib.hid (And.intro (HZ.out.1.below hb9) (And.intro hb19 (And.intro (show OvS q3 x w9 from HZ.out.2.1.on (hb9.block _ (lt_of_blk HZ.out.2.1))) (Nat.le_trans HZ.out.2.2.2.1 hb9.size))))
      clear hb9 hb19 HP z0 z1 z2 z3 z4
      obtain ⟨z0, z1, z2, z3, z4⟩ := OvS.cells HJ.out.2.2.1
      cases hpx : p x with
      | false =>
        have HPX := Lib.hid hpx
        clear hpx
        go_wp2_with fail
        obtain ⟨g1, g2, g3, g4, g5, g6, g7, g8, g9⟩ := HG.out
        rw [HPX.out, if_neg (by simp)] at g6
        refine ⟨⟨done ++ [e], seen.push e.2.2, ?_, (HJ.out.2.1.block _ (Nat.lt_succ_self _)).trans g5, g2, g3.trans (HJ.out.2.1.mono (Nat.le_succ _)), HJ.out.2.2.2⟩, ?_⟩
        · rw [g6]; exact HJ.out.1
        · have h5 : seenN w9 W1.heap.size = (seen.push e.2.2).size := seenN_of ((HJ.out.2.1.block _ (Nat.lt_succ_self _)).trans g5)
          have h6 := g7.2
          have h7 := g7.1
          rw [h5, g9]
          rw [Array.size_push] at h6 ⊢
          omega
      | true =>
        have HPX := Lib.hid hpx
        clear hpx
        go_wp2_with (at_builtin; refine halt ?_)
        refine Halted.go ?_
        have hn2 : n ≤ 4611686 := by
          have h1 := HG.out.2.2.2.2.2.2.2.1
          have h2 := HG.out.2.2.2.2.2.2.1.1
          have h3 := HLE.out
          have h4 := HN.out
          rw [List.length_append] at h2
          omega
        have hal := (Below.refl w9.heap.size w9).alloc (Nat.le_refl _) (.cells #[.int .i64 x.r, .int .u32 (x.ad : Int), .int .i64 x.ln, .int .i64 x.id, .int .i64 x.till] 62)
        refine Rep.append_one T53 rfl _ _ rfl rfl (HJ.out.1.below hal) x _ 1 rfl (hnewAt (by simp)) (n := n) HN.out (by unfold maxLen; omega) (by show (n + 1) * 40 ≤ _; omega) (Nat.le_trans HJ.out.2.2.2 hal.size) ?_
        intro v6 w6 hown6 hb6 _
        obtain ⟨o6, c6, rfl, -, -⟩ := hown6.sl0
        obtain ⟨k1, hk1⟩ : ∃ k1, ((done.map (Kl.ofE Ov.key L)).filter p ++ [x]).length = k1 := ⟨_, rfl⟩
        rw [hk1] at hown6 ⊢
        clear hk1
        have hbz : Below (W1.heap.size + 1) w3 w6 := HJ.out.2.1.trans ((hal.mono HJ.out.2.2.2).trans hb6)
        have HK := Lib.hid (And.intro hown6 (And.intro hbz (Nat.le_trans HJ.out.2.2.2 (Nat.le_trans hal.size hb6.size))))
        clear hown6 hb6 hbz hal hn2
        go_wp2_with fail
        obtain ⟨g1, g2, g3, g4, g5, g6, g7, g8, g9⟩ := HG.out
        rw [HPX.out, if_pos rfl] at g6
        refine ⟨⟨done ++ [e], seen.push e.2.2, ?_, (HK.out.2.1.block _ (Nat.lt_succ_self _)).trans g5, g2, g3.trans (HK.out.2.1.mono (Nat.le_succ _)), HK.out.2.2⟩, ?_⟩
        · rw [g6]; exact HK.out.1
        · have h5 : seenN w6 W1.heap.size = (seen.push e.2.2).size := seenN_of ((HK.out.2.1.block _ (Nat.lt_succ_self _)).trans g5)
          have h6 := g7.2
          have h7 := g7.1
          rw [h5, g9]
          rw [Array.size_push] at h6 ⊢
          omega
end Go.Proofs.Ytfmehahjjgalfaa
/- Sums that are capped; counts in memory. -/
namespace Go.Proofs.Ytfmehahjjgalfaa.Me
open Go.RowKit
open Go.ChangeMaps (setBlock)

abbrev most : Int := 9007199254740991
def nearI (n : Int) : Int := if n < 0 then 0 else if 9007199254740991 < n then 9007199254740991 else n
def addI (a b : Int) : Int := nearI (nearI a + nearI b)
theorem nearI_in (n : Int) : 0 ≤ nearI n ∧ nearI n ≤ 9007199254740991 := by unfold nearI; (repeat' split) <;> omega
theorem nearI_id {n : Int} (h : 0 ≤ n ∧ n ≤ 9007199254740991) : nearI n = n := by unfold nearI; (repeat' split) <;> omega
theorem addI_in (a b : Int) : 0 ≤ addI a b ∧ addI a b ≤ 9007199254740991 := nearI_in _
theorem addI_zero {n : Int} (h : 0 ≤ n ∧ n ≤ 9007199254740991) : addI n 0 = n := by
  unfold addI; rw [nearI_id h, nearI_id (n := 0) (by omega), Int.add_zero, nearI_id h]
theorem near_any (n : Int) (w : World) : Calls Try.prog 94 #[.int .i64 n] w fun e w' => e = .returned (.int .i64 (nearI n)) ∧ w' = w := by
  obtain ⟨c, hc⟩ : ∃ c, nearI n = c := ⟨_, rfl⟩
  rw [hc]
  unfold nearI at hc
  by_cases h1 : n < 0
  · have e1 : (n < 0) = True := eq_true h1
    have e1m : max n 0 = 0 := by omega
    have HC := Lib.hid (show 0 = c from by rw [← hc, if_pos h1])
    clear h1 hc
    go_enter Try.func94, Try.ntmps94
    go_wp2_with fail
    go_ret
    exact ⟨ret_int HC.out, rfl⟩
  · have e1 : (n < 0) = False := eq_false h1
    have e1m : max n 0 = n := by omega
    by_cases h2 : 9007199254740991 < n
    · have e2 : (9007199254740991 < n) = True := eq_true h2
      have e2m : min n 9007199254740991 = 9007199254740991 := by omega
      have HC := Lib.hid (show 9007199254740991 = c from by rw [← hc, if_neg h1, if_pos h2])
      clear h1 h2 hc
      go_enter Try.func94, Try.ntmps94
      go_wp2_with fail
      go_ret
      exact ⟨ret_int HC.out, rfl⟩
    · have e2 : (9007199254740991 < n) = False := eq_false h2
      have e2m : min n 9007199254740991 = n := by omega
      have HC := Lib.hid (show n = c from by rw [← hc, if_neg h1, if_neg h2])
      clear h1 h2 hc
      go_enter Try.func94, Try.ntmps94
      go_wp2_with fail
      go_ret
      exact ⟨ret_int HC.out, rfl⟩
theorem rnear_any (n : Int) (w : World) : Calls Try.prog 95 #[.int .i64 n] w fun e w' => e = .returned (.int .i64 (nearI n)) ∧ w' = w := by
  obtain ⟨c, hc⟩ : ∃ c, nearI n = c := ⟨_, rfl⟩
  rw [hc]
  unfold nearI at hc
  by_cases h1 : n < 0
  · have e1 : (n < 0) = True := eq_true h1
    have e1m : max n 0 = 0 := by omega
    have HC := Lib.hid (show 0 = c from by rw [← hc, if_pos h1])
    clear h1 hc
    go_enter Try.func95, Try.ntmps95
    go_wp2_with fail
    go_ret
    exact ⟨ret_int HC.out, rfl⟩
  · have e1 : (n < 0) = False := eq_false h1
    have e1m : max n 0 = n := by omega
    by_cases h2 : 9007199254740991 < n
    · have e2 : (9007199254740991 < n) = True := eq_true h2
      have e2m : min n 9007199254740991 = 9007199254740991 := by omega
      have HC := Lib.hid (show 9007199254740991 = c from by rw [← hc, if_neg h1, if_pos h2])
      clear h1 h2 hc
      go_enter Try.func95, Try.ntmps95
      go_wp2_with fail
      go_ret
      exact ⟨ret_int HC.out, rfl⟩
    · have e2 : (9007199254740991 < n) = False := eq_false h2
      have e2m : min n 9007199254740991 = n := by omega
      have HC := Lib.hid (show n = c from by rw [← hc, if_neg h1, if_neg h2])
      clear h1 h2 hc
      go_enter Try.func95, Try.ntmps95
      go_wp2_with fail
      go_ret
      exact ⟨ret_int HC.out, rfl⟩

theorem add_wrap (a b : Int) : wrap64 (nearI a + nearI b) = nearI a + nearI b := by
  have h1 := nearI_in a
  have h2 := nearI_in b
  unfold wrap64; omega
theorem add_any (a b : Int) (w : World) : Calls Try.prog 77 #[.int .i64 a, .int .i64 b] w fun e w' => e = .returned (.int .i64 (addI a b)) ∧ w' = w := by
  have HA := Lib.hid (near_any a)
  have HB := Lib.hid (near_any b)
  have hw := add_wrap a b
  have HS := Lib.hid (near_any (nearI a + nearI b))
  unfold addI
  generalize nearI a = x at *
  generalize nearI b = y at *
  generalize nearI (x + y) = z at *
  go_enter Try.func77, Try.ntmps77
  go_wp2_with fail
  refine (HA.out _).mono ?_
  rintro e w1 ⟨rfl, hw1⟩
  subst w1
  go_wp2_with fail
  refine (HB.out _).mono ?_
  rintro e w1 ⟨rfl, hw1⟩
  subst w1
  go_wp2_with fail
  refine (HS.out _).mono ?_
  rintro e w1 ⟨rfl, hw1⟩
  subst w1
  go_wp2_with fail
  go_ret
  exact ⟨rfl, rfl⟩
theorem radd_any (a b : Int) (w : World) : Calls Try.prog 79 #[.int .i64 a, .int .i64 b] w fun e w' => e = .returned (.int .i64 (addI a b)) ∧ w' = w := by
  have HA := Lib.hid (rnear_any a)
  have HB := Lib.hid (rnear_any b)
  have hw := add_wrap a b
  have HS := Lib.hid (rnear_any (nearI a + nearI b))
  unfold addI
  generalize nearI a = x at *
  generalize nearI b = y at *
  generalize nearI (x + y) = z at *
  go_enter Try.func79, Try.ntmps79
  go_wp2_with fail
  refine (HA.out _).mono ?_
  rintro e w1 ⟨rfl, hw1⟩
  subst w1
  go_wp2_with fail
  refine (HB.out _).mono ?_
  rintro e w1 ⟨rfl, hw1⟩
  subst w1
  go_wp2_with fail
  refine (HS.out _).mono ?_
  rintro e w1 ⟨rfl, hw1⟩
  subst w1
  go_wp2_with fail
  go_ret
  exact ⟨rfl, rfl⟩

theorem within_any (n a b : Int) (w : World) : Calls Try.prog 75 #[.int .i64 n, .int .i64 a, .int .i64 b] w fun e w' => e = .returned (.bool (decide (a ≤ n) && decide (n ≤ b))) ∧ w' = w := by
  by_cases h1 : a ≤ n
  · have e1 : (a ≤ n) = True := eq_true h1
    by_cases h2 : n ≤ b
    · have e2 : (n ≤ b) = True := eq_true h2
      have HR := Lib.hid (show (decide (a ≤ n) && decide (n ≤ b)) = true from by simp [h1, h2])
      clear h1 h2
      rw [HR.out]
      go_enter Try.func75, Try.ntmps75
      go_wp2_with fail
      go_ret
      exact ⟨rfl, rfl⟩
    · have e2 : (n ≤ b) = False := eq_false h2
      have HR := Lib.hid (show (decide (a ≤ n) && decide (n ≤ b)) = false from by simp [h1, h2])
      clear h1 h2
      rw [HR.out]
      go_enter Try.func75, Try.ntmps75
      go_wp2_with fail
      go_ret
      exact ⟨rfl, rfl⟩
  · have e1 : (a ≤ n) = False := eq_false h1
    have HR := Lib.hid (show (decide (a ≤ n) && decide (n ≤ b)) = false from by simp [h1])
    clear h1
    rw [HR.out]
    go_enter Try.func75, Try.ntmps75
    go_wp2_with fail
    go_ret
    exact ⟨rfl, rfl⟩
structure Ct where
  p : PK
  n : Int
deriving Inhabited, DecidableEq
def Ct.v (x : Ct) : Value := .int .i64 x.n
def RCt : Rep Ct := ⟨128, 3, by decide, fun x => [.int .u32 (x.p.1 : Int), .int .i64 x.p.2, .int .i64 x.n], fun _ => rfl, fun _ => rfl⟩
def look (L : List Ct) (k : PK) : Option Ct := Kl.look Ct.p L k
def cnt (L : List Ct) (k : PK) : Int := match look L k with | some x => x.n | none => 0
def hasC (L : List Ct) (k : PK) : Bool := (look L k).isSome
/-- counts by prefixes in memory -/
structure CntAt (w : World) (bm : Nat) (L : List Ct) : Prop where
  out : ∃ clk es, MR.MapAt PN w bm es clk ∧ Kl.Lay Ct.p Ct.v es L
theorem CntAt.on {w w' : World} {bm : Nat} {L : List Ct} (H : CntAt w bm L) (h2 : w'.heap[bm]? = w.heap[bm]?) : CntAt w' bm L := by
  obtain ⟨clk, es, k2, k3⟩ := H.out
  exact ⟨clk, es, k2.blk_iff PN h2, k3⟩
theorem CntAt.lt {w : World} {bm : Nat} {L : List Ct} (H : CntAt w bm L) : bm < w.heap.size := by
  obtain ⟨clk, es, k2, k3⟩ := H.out
  exact lt_of_blk k2.blk
theorem CntAt.keep {w w' : World} {bm : Nat} {L : List Ct} (H : CntAt w bm L) (hb : Below w.heap.size w w') : CntAt w' bm L := H.on (hb.block _ H.lt)
theorem CntAt.nd {w : World} {bm : Nat} {L : List Ct} (H : CntAt w bm L) : (L.map Ct.p).Nodup := by
  obtain ⟨clk, es, k2, k3⟩ := H.out
  exact k3.nd
theorem CntAt.lookup {w : World} {bm : Nat} {L : List Ct} (H : CntAt w bm L) {k : PK} (hk : PN.ok k) (W : World) (hW : W.heap[bm]? = w.heap[bm]?) :
    (Instr.lookup 129 (.map (some bm)) (.agg #[.int .u32 (k.1 : Int), .int .i64 k.2]) true).run Try.prog W = .ok (.tuple #[.int .i64 (cnt L k), .bool (hasC L k)]) W := by
  obtain ⟨clk, es, k2, k3⟩ := H.out
  have h := MR.run_lookup PN (k2.blk_iff PN hW) hk Try.underlying129 (z := .int .i64 0) (fun w => by kernel_rfl) true
  rw [k3.get, if_pos rfl] at h
  have e1 : ((Kl.look Ct.p L k).map Ct.v).getD (.int .i64 0) = .int .i64 (cnt L k) := by unfold cnt look; cases Kl.look Ct.p L k <;> rfl
  have e2 : ((Kl.look Ct.p L k).map Ct.v).isSome = hasC L k := by unfold hasC look; cases Kl.look Ct.p L k <;> rfl
  rw [e1, e2] at h
  exact h
theorem CntAt.lookup1 {w : World} {bm : Nat} {L : List Ct} (H : CntAt w bm L) {k : PK} (hk : PN.ok k) (W : World) (hW : W.heap[bm]? = w.heap[bm]?) :
    (Instr.lookup 129 (.map (some bm)) (.agg #[.int .u32 (k.1 : Int), .int .i64 k.2]) false).run Try.prog W = .ok (.int .i64 (cnt L k)) W := by
  obtain ⟨clk, es, k2, k3⟩ := H.out
  have h := MR.run_lookup PN (k2.blk_iff PN hW) hk Try.underlying129 (z := .int .i64 0) (fun w => by kernel_rfl) false
  rw [k3.get, if_neg (by decide)] at h
  have e1 : ((Kl.look Ct.p L k).map Ct.v).getD (.int .i64 0) = .int .i64 (cnt L k) := by unfold cnt look; cases Kl.look Ct.p L k <;> rfl
  rw [e1] at h
  exact h
/-- behind a one is set -/
def setC (L : List Ct) (x : Ct) : List Ct := (L.filter fun y => decide (y.p ≠ x.p)) ++ [x]
theorem set_keys {L : List Ct} (h : (L.map Ct.p).Nodup) (x : Ct) : ((setC L x).map Ct.p).Nodup := by
  unfold setC
  rw [List.map_append, List.nodup_append]
  refine ⟨Kl.nodup_filter h _, by simp, fun a ha b hb => ?_⟩
  simp at hb
  subst hb
  obtain ⟨y, hy, rfl⟩ := List.mem_map.1 ha
  simpa using (List.mem_filter.1 hy).2
theorem look_set {L : List Ct} (h : (L.map Ct.p).Nodup) (x : Ct) (k : PK) : Kl.look Ct.p (setC L x) k = if k = x.p then some x else Kl.look Ct.p L k := by
  have hn := set_keys h x
  split
  · rename_i e; exact (Kl.look_some hn).2 ⟨by unfold setC; simp, e.symm⟩
  · rename_i e
    cases hl : Kl.look Ct.p L k with
    | none =>
      refine Kl.look_no fun y hy => ?_
      unfold setC at hy
      rcases List.mem_append.1 hy with hy | hy
      · exact Kl.look_none hl (List.mem_filter.1 hy).1
      · simp at hy; subst hy; exact Ne.symm e
    | some y =>
      obtain ⟨h1, h2⟩ := Kl.look_mem hl
      refine (Kl.look_some hn).2 ⟨?_, h2⟩
      unfold setC
      exact List.mem_append.2 (.inl (List.mem_filter.2 ⟨h1, by simp; rw [h2]; exact e⟩))
theorem CntAt.update {w : World} {bm : Nat} {L : List Ct} (H : CntAt w bm L) {k : PK} (hk : PN.ok k) (n : Int) :
    ∃ O, (Instr.mapUpdate 129 (.map (some bm)) (.agg #[.int .u32 (k.1 : Int), .int .i64 k.2]) (.int .i64 n)).run Try.prog w = .ok () (setBlock w bm O) ∧ CntAt (setBlock w bm O) bm (setC L ⟨k, n⟩) := by
  obtain ⟨clk, es, k2, k3⟩ := H.out
  have hu := MR.run_update PN k2 hk Try.underlying129 (Ct.v ⟨k, n⟩)
  exact ⟨_, hu.1, ⟨_, _, hu.2, k3.put (x := ⟨k, n⟩) (set_keys k3.nd _) (look_set k3.nd ⟨k, n⟩) hu.2.nodup hu.2.bnodup⟩⟩
theorem CntAt.len {w : World} {bm : Nat} {L : List Ct} (H : CntAt w bm L) (W : World) (hW : W.heap[bm]? = w.heap[bm]?) (ty : TypeId) : (Builtin.len_ #[129] ty #[.map (some bm)]).run Try.prog W = .ok (.int .i64 L.length) W := by
  obtain ⟨clk, es, k2, k3⟩ := H.out
  have := MR.run_len PN (k2.blk_iff PN hW) Try.underlying129 ty
  rw [k3.len] at this
  exact this
theorem CntAt.made {w : World} {b : Nat} (h : w.heap[b]? = some (.map #[] 0)) : CntAt w b [] := ⟨0, [], MR.mapAt_made PN h, Kl.Lay.nil⟩
/-- the counts of a list, the last one of each prefix -/
def ixC (L : List Ct) : List Ct := L.foldl setC []
theorem ixC_succ {L : List Ct} {i : Nat} (hi : i < L.length) : ixC (L.take (i + 1)) = setC (ixC (L.take i)) (L.getD i default) := by
  unfold ixC
  rw [List.take_succ_eq_append_getElem hi, List.foldl_append]
  simp [List.getD_eq_getElem?_getD, hi]
theorem snoc_ind {P : List Ct → Prop} (h0 : P []) (h1 : ∀ L x, P L → P (L ++ [x])) (L : List Ct) : P L := by
  have : ∀ n, ∀ L : List Ct, L.length = n → P L := by
    intro n
    induction n with
    | zero => intro L hL; rw [List.eq_nil_of_length_eq_zero hL]; exact h0
    | succ n ih =>
      intro L hL
      have hne : L ≠ [] := by intro h; rw [h] at hL; cases hL
      rw [← List.dropLast_concat_getLast hne]
      exact h1 _ _ (ih _ (by simp [hL]))
  exact this _ L rfl
theorem ixC_snoc (L : List Ct) (x : Ct) : ixC (L ++ [x]) = setC (ixC L) x := by unfold ixC; rw [List.foldl_append]; rfl
theorem setC_mem {L : List Ct} {x : Ct} {k : PK} : k ∈ (setC L x).map Ct.p ↔ k = x.p ∨ k ∈ L.map Ct.p := by
  unfold setC
  simp only [List.mem_map, List.mem_append, List.mem_filter, List.mem_singleton]
  constructor
  · rintro ⟨y, ⟨hy, -⟩ | rfl, rfl⟩
    · exact .inr ⟨y, hy, rfl⟩
    · exact .inl rfl
  · rintro (rfl | ⟨y, hy, rfl⟩)
    · exact ⟨x, .inr rfl, rfl⟩
    · by_cases h : y.p = x.p
      · exact ⟨x, .inr rfl, h.symm⟩
      · exact ⟨y, .inl ⟨hy, by simpa using h⟩, rfl⟩
theorem ixC_mem : ∀ (L : List Ct) (k : PK), k ∈ (ixC L).map Ct.p ↔ k ∈ L.map Ct.p := by
  refine snoc_ind (fun k => by simp [ixC]) fun L x ih k => ?_
  rw [ixC_snoc, setC_mem, ih k]
  simp only [List.map_append, List.mem_append, List.map_cons, List.map_nil, List.mem_singleton]
  exact or_comm
theorem ixC_nd : ∀ L : List Ct, ((ixC L).map Ct.p).Nodup := by
  refine snoc_ind (by simp [ixC]) fun L x ih => ?_
  rw [ixC_snoc]
  exact set_keys ih x
theorem setC_len {L : List Ct} (hn : (L.map Ct.p).Nodup) (x : Ct) : (setC L x).length = if x.p ∈ L.map Ct.p then L.length else L.length + 1 := by
  unfold setC
  rw [List.length_append]
  split
  · rename_i h
    obtain ⟨y, hy, he⟩ := List.mem_map.1 h
    have h1 : (L.filter fun z => decide (z.p ≠ x.p)) = L.filter fun z => decide (z ≠ y) := by
      refine List.filter_congr fun z hz => ?_
      have : z.p = x.p ↔ z = y := ⟨fun e => Kl.inj_on hn hz hy (e.trans he.symm), fun e => e ▸ he⟩
      simp [this]
    have h2 := (MR.nodup_of_map hn).erase_eq_filter y
    have h3 : (L.filter fun z => decide (z ≠ y)) = L.erase y := by
      rw [h2]
      refine List.filter_congr fun z _ => ?_
      by_cases e : z = y <;> simp [e]
    rw [h1, h3, List.length_erase_of_mem hy]
    have : 0 < L.length := List.length_pos_of_mem hy
    simp
    omega
  · rename_i h
    rw [List.filter_eq_self.2 fun z hz => by
      have : z.p ≠ x.p := fun e => h (e ▸ List.mem_map.2 ⟨z, hz, rfl⟩)
      simpa using this]
    rfl
theorem ixC_len : ∀ L : List Ct, (ixC L).length ≤ L.length ∧ ((ixC L).length = L.length ↔ (L.map Ct.p).Nodup) := by
  refine snoc_ind (by simp [ixC]) fun L x ih => ?_
  rw [ixC_snoc, setC_len (ixC_nd L), List.length_append, List.map_append, List.nodup_append]
  simp only [ixC_mem, List.length_cons, List.length_nil, List.map_cons, List.map_nil]
  obtain ⟨h1, h2⟩ := ih
  split
  · rename_i h
    refine ⟨by omega, ⟨fun e => ?_, fun e => ?_⟩⟩
    · omega
    · exact absurd rfl (e.2.2 x.p h x.p (by simp))
  · rename_i h
    refine ⟨by omega, ⟨fun e => ⟨h2.1 (by omega), by simp, fun a ha b hb e => ?_⟩, fun e => ?_⟩⟩
    · simp at hb; subst hb; exact h (e ▸ ha)
    · have := h2.2 e.1; omega
theorem ixC_id : ∀ L : List Ct, (L.map Ct.p).Nodup → ixC L = L := by
  refine snoc_ind (fun _ => rfl) fun L x ih h => ?_
  rw [List.map_append, List.nodup_append] at h
  rw [ixC_snoc, ih h.1]
  unfold setC
  rw [List.filter_eq_self.2 fun z hz => by
    have : z.p ≠ x.p := fun e => h.2.2 z.p (List.mem_map.2 ⟨z, hz, rfl⟩) x.p (by simp) e
    simpa using this]
end Go.Proofs.Ytfmehahjjgalfaa.Me
