/- Penalties fall: on numbers. -/
import Derived.Test.YtopdohmpaapiiaaWj
namespace Go.Proofs.Ytopdohmpaapiiaa

def fz (n : Int) : Int := n - max (n / 8) 1
def fzk : Nat → Int → Int
  | 0, n => n
  | k + 1, n => fzk k (fz n)
theorem fz_mono {m n : Int} (h : m ≤ n) : fz m ≤ fz n := by unfold fz; omega
theorem fzk_mono : ∀ (k : Nat) {m n : Int}, m ≤ n → fzk k m ≤ fzk k n
  | 0, _, _, h => h
  | k + 1, _, _, h => fzk_mono k (fz_mono h)
theorem fzk_top : fzk 100 1048576 = 0 := by kernel_rfl
theorem fzk_all {n : Int} (h : n ≤ 1048576) : fzk 100 n ≤ 0 := by have := fzk_mono 100 h; rw [fzk_top] at this; exact this

theorem stl_zero (e now : Int) : ∀ (k f : Nat) (n a : Int), 0 ≤ n → n.toNat ≤ f → fzk k n ≤ 0 → k * e ≤ now - a → 1 ≤ e → (stl e now f n a).1 = 0
  | k, 0, n, a, h0, hf, _, _, _ => by simp [stl]; omega
  | 0, f + 1, n, a, h0, hf, hk, _, _ => by
    have : n = 0 := by simp [fzk] at hk; omega
    subst this; simp [stl]
  | k + 1, f + 1, n, a, h0, hf, hk, hn, he => by
    unfold stl
    have h1 : e ≤ now - a := by
      have : (((k + 1 : Nat) : Int)) * e = k * e + e := by rw [Int.natCast_succ, Int.add_mul, Int.one_mul]
      have h2 : 0 ≤ (k : Int) * e := Int.mul_nonneg (by omega) (by omega)
      omega
    by_cases hp : 0 < n
    · rw [if_pos ⟨hp, h1⟩]
      refine stl_zero e now k f _ _ (by omega) (by omega) hk ?_ he
      have : (((k + 1 : Nat) : Int)) * e = k * e + e := by rw [Int.natCast_succ, Int.add_mul, Int.one_mul]
      omega
    · rw [if_neg (fun h => hp h.1)]
      show n = 0
      omega
theorem stl_le (e now : Int) : ∀ (f : Nat) (n a : Int), (stl e now f n a).1 ≤ n
  | 0, n, a => by simp [stl]
  | f + 1, n, a => by
    unfold stl
    split
    · have := stl_le e now f (n - max (n / 8) 1) (a + e); omega
    · exact Int.le_refl _
theorem stl_nonneg (e now : Int) : ∀ (f : Nat) (n a : Int), 0 ≤ n → 0 ≤ (stl e now f n a).1
  | 0, n, a, h => by simpa [stl] using h
  | f + 1, n, a, h => by
    unfold stl
    split
    · rename_i h'; exact stl_nonneg e now f _ _ (by omega)
    · exact h
theorem zero_stays (s : Sett) (a now : Int) : (Pen.at s (0, a, false) now).1 = 0 ∧ (Pen.at s (0, a, false) now).2.2 = false := by
  unfold Pen.at settled
  simp [stl]
theorem stl_at (e now : Int) : ∀ (f : Nat) (n a : Int), a ≤ now → (stl e now f n a).2 ≤ now
  | 0, n, a, h => by simpa [stl] using h
  | f + 1, n, a, h => by
    unfold stl
    split
    · rename_i h'; exact stl_at e now f _ _ (by omega)
    · exact h

theorem deed_same (s : Sett) (hs : s.ok) (n a : Int) (h : Bool) (hn : 1 ≤ n) :
    Pen.deed s (n, a, h) 3 a = (min (n + s.g) 1048576, a, (h && decide (s.lo ≤ n)) || decide (s.hi < min (n + s.g) 1048576)) := by
  obtain ⟨_, _, _, _, _, _, _, _, s9, _⟩ := hs
  unfold Pen.deed Pen.at settled
  dsimp only
  rw [stl_end _ _ _ _ (by omega)]
  have h1 : n ≠ 0 := by omega
  simp [weigh, h1]
theorem deed_first (s : Sett) (a : Int) : Pen.deed s (0, a, false) 3 a = (min s.g 1048576, a, decide (s.hi < min s.g 1048576)) := by
  unfold Pen.deed Pen.at settled
  dsimp only
  rw [stl_end _ _ _ _ (by omega)]
  simp [weigh]

/-- what Penalty and Held tell, one behind the other -/
theorem falls (s : Sett) (hs : s.ok) (n a later : Int) (h : Bool) (hn : 1 ≤ n) (hn2 : n ≤ 1048576) (ha : 0 ≤ a) (ha2 : a ≤ 1099511627776) (hl : 0 ≤ later) (hl2 : later ≤ 1099511627776) :
    (Pen.at s (n, a, h) (near a)) = (n, a, h && decide (s.lo ≤ n)) ∧
    ∀ h', (Pen.at s (n, a, h') (near (a + later))).1 ≤ n ∧
      ∀ q, q = Pen.at s (n, a, h') (near (a + later)) → (Pen.at s q (near (a + later + 200 * s.e))).1 = 0 ∧ (Pen.at s q (near (a + later + 200 * s.e))).2.2 = false := by
  obtain ⟨_, _, _, _, _, _, _, _, s9, s10⟩ := hs
  have n1 : near a = a := by unfold near; omega
  have n2 : near (a + later) = a + later := by unfold near; omega
  have n3 : near (a + later + 200 * s.e) = a + later + 200 * s.e := by unfold near; omega
  refine ⟨?_, fun h' => ⟨?_, ?_⟩⟩
  · rw [n1]
    unfold Pen.at settled
    dsimp only
    rw [stl_end _ _ _ _ (by omega)]
    have : n ≠ 0 := by omega
    simp [this]
  · rw [n2]
    unfold Pen.at settled
    exact stl_le _ _ _ _ _
  · rintro q rfl
    rw [n2, n3]
    unfold Pen.at settled
    dsimp only
    have e1 := stl_le s.e (a + later) n.toNat n a
    have e0 := stl_nonneg s.e (a + later) n.toNat n a (by omega)
    have e2 := stl_at s.e (a + later) n.toNat n a (by omega)
    generalize stl s.e (a + later) n.toNat n a = r at *
    obtain ⟨m, b⟩ := r
    dsimp only at *
    have hz : (stl s.e (a + later + 200 * s.e) m.toNat m (if m = 0 then max b (a + later) else b)).1 = 0 ∨ m < 0 := by
      by_cases hm : 0 ≤ m
      · left
        by_cases h0 : m = 0
        · subst h0; simp [stl]
        · refine stl_zero _ _ 100 _ _ _ hm (Nat.le_refl _) (fzk_all (by omega)) ?_ s9
          rw [if_neg h0]
          have : ((100 : Nat) : Int) * s.e = 100 * s.e := rfl
          omega
      · right; omega
    rcases hz with hz | hz
    · simp [hz]
    · exfalso; omega
end Go.Proofs.Ytopdohmpaapiiaa
