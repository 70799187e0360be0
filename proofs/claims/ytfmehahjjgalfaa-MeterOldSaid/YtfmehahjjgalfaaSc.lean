/- Slices of slices: what s[:i] and s[i:] are, and what they read as. -/
import Derived.Test.YtfmehahjjgalfaaEl
namespace Go.Proofs.Ytfmehahjjgalfaa
open Go.RowKit
namespace Rep
variable {α : Type} [Inhabited α] {R : Rep α} {P : Program}
theorem Ty.elem {t : TypeId} {bytes : Nat} (hT : Ty P t R bytes) : P.elem t = R.T := by
  unfold Program.elem; rw [hT.ht]
theorem Ty.elem' {t : TypeId} {bytes : Nat} (hT : Ty P t R bytes) : P.underlying t = some (.slice (P.elem t)) := by rw [hT.elem]; exact hT.ht
theorem Ty.size {t : TypeId} {bytes : Nat} (hT : Ty P t R bytes) (w : World) : (sizeOf (P.elem t)).run P w = .ok R.k w := by
  rw [hT.elem]
  obtain ⟨i, z, h1, h2, h3, h4, h5⟩ := hT.hi
  simp [sizeOf, typeInfo, h1, h3]
/-- where the cut slice begins -/
def cutAddr (a : Option Addr) (l m k : Nat) : Option Addr := if m = l then a else a.map (·.add (l * k))
theorem cutAddr_some {b o l m k : Nat} : ∃ o', cutAddr (some ⟨b, o, none⟩) l m k = some ⟨b, o', none⟩ ∧ (m ≠ l → o' = o + l * k) := by
  unfold cutAddr
  split
  · rename_i h; exact ⟨o, rfl, fun h' => absurd h h'⟩
  · refine ⟨o + l * k, ?_, fun _ => rfl⟩
    show some ((⟨b, o, none⟩ : Addr).add (l * k)) = _
    unfold Addr.add; split <;> simp_all
theorem cutAddr_none {l m k : Nat} : cutAddr none l m k = none := by unfold cutAddr; split <;> rfl
theorem cutAddr_isNone {a : Option Addr} {l m k : Nat} (h : cutAddr a l m k = none) : a = none := by
  unfold cutAddr at h
  split at h
  · exact h
  · cases a with
    | none => rfl
    | some _ => cases h
theorem cut_from {t : TypeId} {bytes : Nat} (hT : Ty P t R bytes) {w : World} {a : Option Addr} {n c : Nat} {L : List α} (hs : R.Sl w a n c L) (hnc : n ≤ c) (hn0 : a = none → c = 0) {i : Nat} (hi : i ≤ n) :
    ∃ sa, (∀ W, (Instr.sliceAt t (.slice a n c) (some (.int .i64 (i : Int))) none none).run P W = .ok (.slice sa (n - i) (c - i)) W) ∧ (∀ W, (Instr.slice t (.slice a n c) (some (.int .i64 (i : Int))) none none).run P W = .ok (.slice sa (n - i) (c - i)) W) ∧
      R.Sl w sa (n - i) (c - i) (L.drop i) ∧ (sa = none → c - i = 0) ∧ ∀ b o, a = some ⟨b, o, none⟩ → ∃ o', sa = some ⟨b, o', none⟩ := by
  have h2 : ∀ W, (Instr.slice t (.slice a n c) (some (.int .i64 (i : Int))) none none).run P W = .ok (.slice (cutAddr a i c R.k) (n - i) (c - i)) W := fun W => by
    rw [run_slice_l W t a n c hT.elem' .i64 (i : Int) (by omega) (by omega), hT.size W]
    simp only [Result.andThen, sliced, Int.toNat_natCast, cutAddr]
  refine ⟨cutAddr a i c R.k, fun W => ?_, h2, ⟨by rw [List.length_drop, ← hs.len], by have := hs.max; omega, fun h0 => ?_⟩, fun e => ?_, fun b o e => ?_⟩
  · rw [run_sliceAt_slice W t _ _ _ _ hT.elem']; exact h2 W
  · obtain ⟨b, o, e, hr⟩ := hs.row (by omega)
    obtain ⟨o', e', ho'⟩ := cutAddr_some (b := b) (o := o) (l := i) (m := c) (k := R.k)
    rw [e, e']
    refine ⟨b, o', rfl, ?_⟩
    rw [ho' (by omega)]
    exact hr.drop i
  · rw [hn0 (cutAddr_isNone e)]; omega
  · subst e
    obtain ⟨o', e', -⟩ := cutAddr_some (b := b) (o := o) (l := i) (m := c) (k := R.k)
    exact ⟨o', e'⟩
theorem cut_to {t : TypeId} {bytes : Nat} (hT : Ty P t R bytes) {w : World} {a : Option Addr} {n c : Nat} {L : List α} (hs : R.Sl w a n c L) (hnc : n ≤ c) (hn0 : a = none → c = 0) {i : Nat} (hi : i ≤ n) :
    ∃ sa, (∀ W, (Instr.sliceAt t (.slice a n c) none (some (.int .i64 (i : Int))) none).run P W = .ok (.slice sa i c) W) ∧ (∀ W, (Instr.slice t (.slice a n c) none (some (.int .i64 (i : Int))) none).run P W = .ok (.slice sa i c) W) ∧
      R.Sl w sa i c (L.take i) ∧ (sa = none → c = 0) ∧ ∀ b o, a = some ⟨b, o, none⟩ → ∃ o', sa = some ⟨b, o', none⟩ := by
  have h2 : ∀ W, (Instr.slice t (.slice a n c) none (some (.int .i64 (i : Int))) none).run P W = .ok (.slice (cutAddr a 0 c R.k) i c) W := fun W => by
    rw [run_slice_h W t a n c hT.elem' .i64 (i : Int) (by omega) (by omega), hT.size W]
    simp only [Result.andThen, sliced, Int.toNat_natCast, cutAddr, Nat.sub_zero]
  refine ⟨cutAddr a 0 c R.k, fun W => ?_, h2, ⟨by rw [List.length_take, ← hs.len]; omega, by have := hs.max; omega, fun h0 => ?_⟩, fun e => hn0 (cutAddr_isNone e), fun b o e => ?_⟩
  · rw [run_sliceAt_slice W t _ _ _ _ hT.elem']; exact h2 W
  · obtain ⟨b, o, e, hr⟩ := hs.row (by omega)
    obtain ⟨o', e', ho'⟩ := cutAddr_some (b := b) (o := o) (l := 0) (m := c) (k := R.k)
    rw [e, e']
    refine ⟨b, o', rfl, ?_⟩
    rw [ho' (by omega), Nat.zero_mul, Nat.add_zero]
    exact hr.take i
  · subst e
    obtain ⟨o', e', -⟩ := cutAddr_some (b := b) (o := o) (l := 0) (m := c) (k := R.k)
    exact ⟨o', e'⟩
end Rep
end Go.Proofs.Ytfmehahjjgalfaa
