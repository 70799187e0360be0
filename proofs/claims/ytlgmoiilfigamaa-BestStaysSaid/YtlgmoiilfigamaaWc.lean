/- slices.IndexFunc over candidates, by the two closures. -/
import Derived.Test.YtlgmoiilfigamaaRow
namespace Go.Proofs.Ytlgmoiilfigamaa
open Go.RowKit
def idxI (p : Cd → Bool) (L : List Cd) : Int := if idxOf p L = L.length then -1 else idxOf p L

/-- what the closure is good for: in whatever world that comes of w by changing the row and new blocks -/
def Dela (bf bb : Nat) (p : Cd → Bool) (L : List Cd) (w : World) (bs : List Nat) : Prop :=
  ∀ w', But w w' bs → ∀ c ∈ L, Calls Try.prog 30 #[c.1.cand c.2, .pointer (some ⟨bf, 0, none⟩), .pointer (some ⟨bb, 0, none⟩)] w' fun e w'' => e = .returned (.bool (p c)) ∧ Below w'.heap.size w' w''

set_option maxHeartbeats 1000000 in
theorem indexa (bf bb : Nat) (p : Cd → Bool) (b cap : Nat) (L : List Cd) (cur : Array Value) (w : World) (bs : List Nat) (hr : RowC w b cap L cur) (hd : Dela bf bb p L w bs) :
    Calls Try.prog 38 #[.slice (some ⟨b, 0, none⟩) L.length cap, .func (.func 30) #[] #[.pointer (some ⟨bf, 0, none⟩), .pointer (some ⟨bb, 0, none⟩)]] w fun e w' => e = .returned (.int .i64 (idxI p L)) ∧ Below w.heap.size w w' := by
  obtain ⟨n, hn⟩ : ∃ n, n = L.length := ⟨_, rfl⟩
  rw [← hn]
  have hm : n ≤ 9223372036854775807 := by have h1 := hr.le; have h2 := hr.max; unfold maxLen at h2; omega
  have HD := Lib.hid (And.intro hr (And.intro hd hn))
  have lb := lt_of_blk hr.blk
  clear hr hd hn
  go_enter Try.func38, Try.ntmps38
  go_wp2_with fail
  go_loopw [8] (fun i wr => ∃ k : Nat, k ≤ n ∧ i = .int .i64 k ∧ (∀ j, j < k → p (L.getD j default) = false) ∧ Below w.heap.size w wr) (fun i _ => n - (intOf i).toNat)
  case atStart => exact ⟨0, Nat.zero_le _, rfl, fun _ h => absurd h (Nat.not_lt_zero _), Below.refl _ _⟩
  case round =>
    obtain ⟨k, hk, rfl, hno, hb⟩ := hrel
    obtain ⟨hr, hd, hn⟩ := HD.out
    by_cases hlt : k < n
    · have hr' := hr.keep (hb.block b lb)
      obtain ⟨c0, c1, c2, c3, c4, c5, c6, c7, c8, c9, c10⟩ := hr'.at (i := k) (by omega)
      have hmem : L.getD k default ∈ L := by rw [List.getD_eq_getElem?_getD, List.getElem?_eq_getElem (by omega : k < L.length)]; exact List.getElem_mem _
      have hcall := hd wr (But.of_below hb bs) _ hmem
      have HP := Lib.hid (And.intro hno (And.intro hb hn))
      generalize hq : L.getD k default = q at *
      obtain ⟨x, m⟩ := q
      dsimp only at c0 c1 c2 c3 c4 c5 c6 c7 c8 c9 c10 hcall
      have HQ := Lib.hid hq
      clear hq hd hr hr' hmem hb hno hn
      unfold Rt.cand at hcall
      cases hp : p (x, m) with
      | true =>
        rw [hp] at hcall
        have HC := Lib.hid hcall
        have HPT := Lib.hid hp
        clear hcall hp
        go_wp2_with fail
        refine (HC.out).mono ?_
        rintro e w1 ⟨rfl, hb1⟩
        go_wp2_with fail
        go_ret
        obtain ⟨hno, hb, hn⟩ := HP.out
        have hi := idxOf_eq p L k (by omega) hno (by rw [HQ.out]; exact HPT.out)
        exact ⟨ret_int (by unfold idxI; rw [hi, if_neg (by omega)]), hb.trans (hb1.mono hb.size)⟩
      | false =>
        rw [hp] at hcall
        have HC := Lib.hid hcall
        have HPT := Lib.hid hp
        clear hcall hp
        go_wp2_with fail
        refine (HC.out).mono ?_
        rintro e w1 ⟨rfl, hb1⟩
        go_wp2_with fail
        obtain ⟨hno, hb, hn⟩ := HP.out
        go_roundw
        case rel =>
          refine ⟨k + 1, by omega, by go_num, ?_, hb.trans (hb1.mono hb.size)⟩
          intro j hj
          by_cases hjk : j = k
          · subst hjk; rw [HQ.out]; exact HPT.out
          · exact hno j (by omega)
        case measure => simp [intOf]; omega
    · have HP := Lib.hid (And.intro hno (And.intro hb hn))
      have hf : ¬ ((k : Int) < n) := by omega
      have hkn : k = n := by omega
      have HK := Lib.hid hkn
      clear hno hb hn hd hr hkn
      go_wp2_with fail
      go_ret
      obtain ⟨hno, hb, hn⟩ := HP.out
      have hkn := HK.out
      have hi := idxOf_none p L (fun i hi => hno i (by omega))
      exact ⟨ret_int (by unfold idxI; rw [if_pos hi]), hb⟩

/-- what the closure is good for: in whatever world that comes of w by changing the row and new blocks -/
def Delm (bf : Nat) (p : Cd → Bool) (L : List Cd) (w : World) (bs : List Nat) : Prop :=
  ∀ w', But w w' bs → ∀ c ∈ L, Calls Try.prog 41 #[c.1.cand c.2, .pointer (some ⟨bf, 0, none⟩)] w' fun e w'' => e = .returned (.bool (p c)) ∧ Below w'.heap.size w' w''

set_option maxHeartbeats 1000000 in
theorem indexm (bf : Nat) (p : Cd → Bool) (b cap : Nat) (L : List Cd) (cur : Array Value) (w : World) (bs : List Nat) (hr : RowC w b cap L cur) (hd : Delm bf p L w bs) :
    Calls Try.prog 38 #[.slice (some ⟨b, 0, none⟩) L.length cap, .func (.func 41) #[] #[.pointer (some ⟨bf, 0, none⟩)]] w fun e w' => e = .returned (.int .i64 (idxI p L)) ∧ Below w.heap.size w w' := by
  obtain ⟨n, hn⟩ : ∃ n, n = L.length := ⟨_, rfl⟩
  rw [← hn]
  have hm : n ≤ 9223372036854775807 := by have h1 := hr.le; have h2 := hr.max; unfold maxLen at h2; omega
  have HD := Lib.hid (And.intro hr (And.intro hd hn))
  have lb := lt_of_blk hr.blk
  clear hr hd hn
  go_enter Try.func38, Try.ntmps38
  go_wp2_with fail
  go_loopw [8] (fun i wr => ∃ k : Nat, k ≤ n ∧ i = .int .i64 k ∧ (∀ j, j < k → p (L.getD j default) = false) ∧ Below w.heap.size w wr) (fun i _ => n - (intOf i).toNat)
  case atStart => exact ⟨0, Nat.zero_le _, rfl, fun _ h => absurd h (Nat.not_lt_zero _), Below.refl _ _⟩
  case round =>
    obtain ⟨k, hk, rfl, hno, hb⟩ := hrel
    obtain ⟨hr, hd, hn⟩ := HD.out
    by_cases hlt : k < n
    · have hr' := hr.keep (hb.block b lb)
      obtain ⟨c0, c1, c2, c3, c4, c5, c6, c7, c8, c9, c10⟩ := hr'.at (i := k) (by omega)
      have hmem : L.getD k default ∈ L := by rw [List.getD_eq_getElem?_getD, List.getElem?_eq_getElem (by omega : k < L.length)]; exact List.getElem_mem _
      have hcall := hd wr (But.of_below hb bs) _ hmem
      have HP := Lib.hid (And.intro hno (And.intro hb hn))
      generalize hq : L.getD k default = q at *
      obtain ⟨x, m⟩ := q
      dsimp only at c0 c1 c2 c3 c4 c5 c6 c7 c8 c9 c10 hcall
      have HQ := Lib.hid hq
      clear hq hd hr hr' hmem hb hno hn
      unfold Rt.cand at hcall
      cases hp : p (x, m) with
      | true =>
        rw [hp] at hcall
        have HC := Lib.hid hcall
        have HPT := Lib.hid hp
        clear hcall hp
        go_wp2_with fail
        refine (HC.out).mono ?_
        rintro e w1 ⟨rfl, hb1⟩
        go_wp2_with fail
        go_ret
        obtain ⟨hno, hb, hn⟩ := HP.out
        have hi := idxOf_eq p L k (by omega) hno (by rw [HQ.out]; exact HPT.out)
        exact ⟨ret_int (by unfold idxI; rw [hi, if_neg (by omega)]), hb.trans (hb1.mono hb.size)⟩
      | false =>
        rw [hp] at hcall
        have HC := Lib.hid hcall
        have HPT := Lib.hid hp
        clear hcall hp
        go_wp2_with fail
        refine (HC.out).mono ?_
        rintro e w1 ⟨rfl, hb1⟩
        go_wp2_with fail
        obtain ⟨hno, hb, hn⟩ := HP.out
        go_roundw
        case rel =>
          refine ⟨k + 1, by omega, by go_num, ?_, hb.trans (hb1.mono hb.size)⟩
          intro j hj
          by_cases hjk : j = k
          · subst hjk; rw [HQ.out]; exact HPT.out
          · exact hno j (by omega)
        case measure => simp [intOf]; omega
    · have HP := Lib.hid (And.intro hno (And.intro hb hn))
      have hf : ¬ ((k : Int) < n) := by omega
      have hkn : k = n := by omega
      have HK := Lib.hid hkn
      clear hno hb hn hd hr hkn
      go_wp2_with fail
      go_ret
      obtain ⟨hno, hb, hn⟩ := HP.out
      have hkn := HK.out
      have hi := idxOf_none p L (fun i hi => hno i (by omega))
      exact ⟨ret_int (by unfold idxI; rw [if_pos hi]), hb⟩
end Go.Proofs.Ytlgmoiilfigamaa
