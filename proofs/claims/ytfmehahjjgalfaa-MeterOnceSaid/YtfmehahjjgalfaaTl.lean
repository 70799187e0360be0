/- What a trie tells, of its things. -/
import Derived.Test.YtfmehahjjgalfaaTa
namespace Go.Proofs.Ytfmehahjjgalfaa
open Go.RowKit
section
variable {α : Type}
def look (M : Nat → Nat → Option α) (a : Nat) (l : Int) : Option α := if okP a l then M a l.toNat else none
/-- the longest one of fewer bits than i that holds an address -/
def lng (M : Nat → Nat → Option α) (a : Nat) : Nat → Option Nat
  | 0 => none
  | i + 1 => if (M (pcut a i) i).isSome then some i else lng M a i
def lngX (z : α) (M : Nat → Nat → Option α) (a i : Nat) : α := match lng M a i with | none => z | some j => (M (pcut a j) j).getD z
def lngN (M : Nat → Nat → Option α) (a i : Nat) : Int := match lng M a i with | none => -1 | some j => (j : Int)
theorem lng_none {z : α} {M : Nat → Nat → Option α} {a i : Nat} (h : M (pcut a i) i = none) : lngX z M a (i + 1) = lngX z M a i ∧ lngN M a (i + 1) = lngN M a i := by simp [lngX, lngN, lng, h]
theorem lng_some {z x : α} {M : Nat → Nat → Option α} {a i : Nat} (h : M (pcut a i) i = some x) : lngX z M a (i + 1) = x ∧ lngN M a (i + 1) = i := by simp [lngX, lngN, lng, h]
theorem lng_lt {M : Nat → Nat → Option α} {a : Nat} : ∀ {i j : Nat}, lng M a i = some j → j < i
  | 0, _, h => by cases h
  | i + 1, j, h => by
    rw [lng] at h
    split at h
    · injection h with h; omega
    · have := lng_lt h; omega
theorem lng_stop {M : Nat → Nat → Option α} {a i : Nat} (h : ∀ j, i ≤ j → j < 33 → M (pcut a j) j = none) (hi : i ≤ 33) : lng M a 33 = lng M a i := by
  have : ∀ d, i + d ≤ 33 → lng M a (i + d) = lng M a i := by
    intro d
    induction d with
    | zero => intro _; rfl
    | succ d ih =>
      intro hd
      rw [← Nat.add_assoc, lng, h (i + d) (by omega) (by omega)]
      simpa using ih (by omega)
  have h2 := this (33 - i) (by omega)
  rwa [show i + (33 - i) = 33 by omega] at h2
end
theorem or_kid {x e : Nat} (h : Key x e) (he : e ≤ 31) : bits .or .u32 (x : Int) (2 ^ (31 - e) % 4294967296) = ((kid x e true : Nat) : Int) := by
  have hle : 2 ^ (31 - e) ≤ 2 ^ 31 := Nat.pow_le_pow_right (by decide) (by omega)
  have hlt := h.lt
  have hc : ((2 : Int) ^ (31 - e) % 4294967296) = ((2 ^ (31 - e) : Nat) : Int) := by
    rw [Int.emod_eq_of_lt]
    · simp
    · exact Int.pow_nonneg (by decide)
    · have : ((2 ^ (31 - e) : Nat) : Int) < 4294967296 := by omega
      simpa using this
  have hk := (h.kid he true).lt
  obtain ⟨q, e1, _⟩ := h.div
  have hmod : x % 2 ^ (32 - e) = 0 := by rw [e1]; exact Nat.mul_mod_left _ _
  rw [hc, bits_join .u32 32 (by decide) (fun n h0 h1 => by rw [IntKind.wrap_u32]; omega) (32 - e) x ((2 ^ (31 - e) : Nat) : Int) (by omega) (by exact_mod_cast hmod) (by exact_mod_cast hlt) (by omega) (by
    have : 2 ^ (31 - e) < 2 ^ (32 - e) := Nat.pow_lt_pow_right (by decide) (by omega)
    exact_mod_cast this) (by exact_mod_cast (by omega : 2 ^ (31 - e) < 4294967296))]
  simp [kid]
section
variable {P : Program} {a : Act} {w : World}
/-- three results, the first of which lies in a cell -/
theorem ret_cell3 {fn : Func} {R : Ending → World → Prop} {p q r : Tmp} {ty T : TypeId} {b : Nat} {cells : Array Value} {fr : Nat × Nat} (hr : fn.results = #[.cell p ty, .tmp q, .tmp r]) (hp : a.tmps.getD p undef = .pointer (some ⟨b, 0, none⟩)) (hd : a.defers = [])
    (hb : w.heap[b]? = some (.cells cells T fr)) {d : TypeDesc} (hu : P.underlying ty = some d) (hdr : d.isRow = true) (hi : (P.info? ty).map (·.size) = some cells.size) (h : R (.returned (.tuple #[.agg cells, a.tmps.getD q undef, a.tmps.getD r undef])) w) : bodyPost P fn R .ret a w := by
  refine bodyPost_ret ?_ hd h
  simp only [results, hr]
  have hp' : a.tmps[p]?.getD undef = .pointer (some ⟨b, 0, none⟩) := by simpa using hp
  simp [asAddr, hp', run_load_whole (P := P) hb hu hdr hi]
end
end Go.Proofs.Ytfmehahjjgalfaa
