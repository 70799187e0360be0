/- Sums that are capped; prefixes, counts and flows in memory; counts by prefixes (plain). -/
import Derived.Test.YtcbpdjenncbbeaaQae
import Derived.Test.YtcbpdjenncbbeaaQaa
import Derived.Laws.Tables
import Derived.Deep.Quiet
import Derived.Test.YtcbpdjenncbbeaaQac
namespace Go.Proofs.Ytcbpdjenncbbeaa
open Go.RowKit

def nearI (n : Int) : Int := if n < 0 then 0 else if 9007199254740991 < n then 9007199254740991 else n
def addI (a b : Int) : Int := nearI (nearI a + nearI b)
theorem nearI_in (n : Int) : 0 ≤ nearI n ∧ nearI n ≤ 9007199254740991 := by unfold nearI; (repeat' split) <;> omega
theorem nearI_id {n : Int} (h : 0 ≤ n ∧ n ≤ 9007199254740991) : nearI n = n := by unfold nearI; (repeat' split) <;> omega
theorem addI_in (a b : Int) : 0 ≤ addI a b ∧ addI a b ≤ 9007199254740991 := nearI_in _
theorem addI_zero {n : Int} (h : 0 ≤ n ∧ n ≤ 9007199254740991) : addI n 0 = n := by
  unfold addI; rw [nearI_id h, nearI_id (n := 0) (by omega), Int.add_zero, nearI_id h]
theorem near_any (n : Int) (w : World) : Calls Try.prog 45 #[.int .i64 n] w fun e w' => e = .returned (.int .i64 (nearI n)) ∧ w' = w := by
  obtain ⟨c, hc⟩ : ∃ c, nearI n = c := ⟨_, rfl⟩
  rw [hc]
  unfold nearI at hc
  by_cases h1 : n < 0
  · have e1 : (n < 0) = True := eq_true h1
    have e1m : max n 0 = 0 := by omega
    have HC := Lib.hid (show 0 = c from by rw [← hc, if_pos h1])
    clear h1 hc
    go_enter Try.func45, Try.ntmps45
    go_wp2_with fail
    go_ret
    exact ⟨ret_int HC.out, rfl⟩
  · have e1 : (n < 0) = False := eq_false h1
    have e1m : max n 0 = n := by omega
    by_cases h2 : 9007199254740991 < n
    · have e2 : (9007199254740991 < n) = True := eq_true h2
      have e2m : min n 9007199254740991 = 9007199254740991 := by omega
      have HC := Lib.hid (show 9007199254740991 = c from by rw [← hc, if_neg h1, if_pos h2])
      clear h1 h2 hc
      go_enter Try.func45, Try.ntmps45
      go_wp2_with fail
      go_ret
      exact ⟨ret_int HC.out, rfl⟩
    · have e2 : (9007199254740991 < n) = False := eq_false h2
      have e2m : min n 9007199254740991 = n := by omega
      have HC := Lib.hid (show n = c from by rw [← hc, if_neg h1, if_neg h2])
      clear h1 h2 hc
      go_enter Try.func45, Try.ntmps45
      go_wp2_with fail
      go_ret
      exact ⟨ret_int HC.out, rfl⟩
theorem rnear_any (n : Int) (w : World) : Calls Try.prog 46 #[.int .i64 n] w fun e w' => e = .returned (.int .i64 (nearI n)) ∧ w' = w := by
  obtain ⟨c, hc⟩ : ∃ c, nearI n = c := ⟨_, rfl⟩
  rw [hc]
  unfold nearI at hc
  by_cases h1 : n < 0
  · have e1 : (n < 0) = True := eq_true h1
    have e1m : max n 0 = 0 := by omega
    have HC := Lib.hid (show 0 = c from by rw [← hc, if_pos h1])
    clear h1 hc
    go_enter Try.func46, Try.ntmps46
    go_wp2_with fail
    go_ret
    exact ⟨ret_int HC.out, rfl⟩
  · have e1 : (n < 0) = False := eq_false h1
    have e1m : max n 0 = n := by omega
    by_cases h2 : 9007199254740991 < n
    · have e2 : (9007199254740991 < n) = True := eq_true h2
      have e2m : min n 9007199254740991 = 9007199254740991 := by omega
      have HC := Lib.hid (show 9007199254740991 = c from by rw [← hc, if_neg h1, if_pos h2])
      clear h1 h2 hc
      go_enter Try.func46, Try.ntmps46
      go_wp2_with fail
      go_ret
      exact ⟨ret_int HC.out, rfl⟩
    · have e2 : (9007199254740991 < n) = False := eq_false h2
      have e2m : min n 9007199254740991 = n := by omega
      have HC := Lib.hid (show n = c from by rw [← hc, if_neg h1, if_neg h2])
      clear h1 h2 hc
      go_enter Try.func46, Try.ntmps46
      go_wp2_with fail
      go_ret
      exact ⟨ret_int HC.out, rfl⟩

theorem add_wrap (a b : Int) : wrap64 (nearI a + nearI b) = nearI a + nearI b := by
  have h1 := nearI_in a
  have h2 := nearI_in b
  unfold wrap64; omega
theorem add_any (a b : Int) (w : World) : Calls Try.prog 27 #[.int .i64 a, .int .i64 b] w fun e w' => e = .returned (.int .i64 (addI a b)) ∧ w' = w := by
  have HA := Lib.hid (near_any a)
  have HB := Lib.hid (near_any b)
  have hw := add_wrap a b
  have HS := Lib.hid (near_any (nearI a + nearI b))
  unfold addI
  generalize nearI a = x at *
  generalize nearI b = y at *
  generalize nearI (x + y) = z at *
  go_enter Try.func27, Try.ntmps27
  go_wp2_with fail
  refine (HA.out _).mono ?_
  rintro e w1 ⟨rfl, hw1⟩
  subst w1
  go_wp2_with fail
  refine (HB.out _).mono ?_
  rintro e w1 ⟨rfl, hw1⟩
  subst w1
  go_wp2_with fail
  refine (HS.out _).mono ?_
  rintro e w1 ⟨rfl, hw1⟩
  subst w1
  go_wp2_with fail
  go_ret
  exact ⟨rfl, rfl⟩
theorem radd_any (a b : Int) (w : World) : Calls Try.prog 29 #[.int .i64 a, .int .i64 b] w fun e w' => e = .returned (.int .i64 (addI a b)) ∧ w' = w := by
  have HA := Lib.hid (rnear_any a)
  have HB := Lib.hid (rnear_any b)
  have hw := add_wrap a b
  have HS := Lib.hid (rnear_any (nearI a + nearI b))
  unfold addI
  generalize nearI a = x at *
  generalize nearI b = y at *
  generalize nearI (x + y) = z at *
  go_enter Try.func29, Try.ntmps29
  go_wp2_with fail
  refine (HA.out _).mono ?_
  rintro e w1 ⟨rfl, hw1⟩
  subst w1
  go_wp2_with fail
  refine (HB.out _).mono ?_
  rintro e w1 ⟨rfl, hw1⟩
  subst w1
  go_wp2_with fail
  refine (HS.out _).mono ?_
  rintro e w1 ⟨rfl, hw1⟩
  subst w1
  go_wp2_with fail
  go_ret
  exact ⟨rfl, rfl⟩


abbrev PKi := Nat × Int
def RPk : Rep PKi := ⟨46, 2, by decide, fun x => [.int .u32 (x.1 : Int), .int .i64 x.2], fun _ => rfl, fun _ => rfl⟩
theorem TPk : Rep.Ty Try.prog 22 RPk 16 := Rep.Ty.mk' Try.underlying22 (z := .agg #[.int .u32 0, .int .i64 0]) (by kernel_rfl) rfl
abbrev KC := (Nat × Nat) × Int
def RCt : Rep KC := ⟨48, 3, by decide, fun x => [.int .u32 (x.1.1 : Int), .int .i64 (x.1.2 : Int), .int .i64 x.2], fun _ => rfl, fun _ => rfl⟩
theorem TCt : Rep.Ty Try.prog 33 RCt 24 := Rep.Ty.mk' Try.underlying33 (z := .agg #[.int .u32 0, .int .i64 0, .int .i64 0]) (by kernel_rfl) rfl
structure Fl where
  dom : Int
  dst : Nat
  by' : Int
deriving DecidableEq, Inhabited
def Fl.v (f : Fl) : Value := .agg #[.int .i64 f.dom, .int .u32 (f.dst : Int), .int .i64 f.by']
def RFl : Rep Fl := ⟨44, 3, by decide, fun f => [.int .i64 f.dom, .int .u32 (f.dst : Int), .int .i64 f.by'], fun _ => rfl, fun _ => rfl⟩
theorem TFl : Rep.Ty Try.prog 23 RFl 24 := Rep.Ty.mk' Try.underlying23 (z := .agg #[.int .i64 0, .int .u32 0, .int .i64 0]) (by kernel_rfl) rfl
/-- a key: a prefix that may be -/
def keyP (p : PKi) : Nat × Nat := (p.1, p.2.toNat)
/-- counts of 0 of prefixes, in order -/
def ovL (P : List PKi) : List KC := P.foldl (fun L p => insE (keyP p) 0 L) []
def okAll (P : List PKi) : Bool := P.all fun p => okP p.1 p.2
theorem ovL_snoc (P : List PKi) (p : PKi) : ovL (P ++ [p]) = insE (keyP p) 0 (ovL P) := by unfold ovL; rw [List.foldl_append]; rfl
theorem takeS {α : Type} [Inhabited α] {L : List α} {i : Nat} (h : i < L.length) : L.take (i + 1) = L.take i ++ [L.getD i default] := by
  rw [List.take_add_one, List.getElem?_eq_getElem h, Option.toList_some, List.getD_eq_getElem?_getD, List.getElem?_eq_getElem h, Option.getD_some]
theorem ovL_sorted (P : List PKi) : ((ovL P).map (·.1)).Pairwise ltK ∧ (∀ q, q ∈ (ovL P).map (·.1) ↔ q ∈ P.map keyP) ∧ (∀ e ∈ ovL P, e.2 = 0) := by
  have h : ∀ n (P : List PKi), P.length = n → ((ovL P).map (·.1)).Pairwise ltK ∧ (∀ q, q ∈ (ovL P).map (·.1) ↔ q ∈ P.map keyP) ∧ (∀ e ∈ ovL P, e.2 = 0) := by
    intro n
    induction n with
    | zero => intro P h; rw [List.length_eq_zero_iff.1 h]; exact ⟨List.Pairwise.nil, fun _ => Iff.rfl, by simp [ovL]⟩
    | succ n ih =>
      intro P h
      have hne : P ≠ [] := by rintro rfl; simp at h
      rw [← List.dropLast_concat_getLast hne, ovL_snoc]
      obtain ⟨h1, h2, h3⟩ := ih P.dropLast (by simp; omega)
      refine ⟨ins_sorted _ _ _ h1, fun q => ?_, fun e he => ?_⟩
      · rw [ins_keys, h2, List.map_append, List.map_singleton, List.mem_append, List.mem_singleton]
        exact or_comm
      · obtain ⟨q, u⟩ := e
        rw [ins_mem _ _ _ h1] at he
        split at he
        · exact he
        · exact h3 _ he
  exact h _ P rfl
theorem ovL_len (P : List PKi) : (ovL P).length ≤ P.length ∧ ((ovL P).length = P.length ↔ (P.map keyP).Nodup) := by
  have h : ∀ n (P : List PKi), P.length = n → (ovL P).length ≤ P.length ∧ ((ovL P).length = P.length ↔ (P.map keyP).Nodup) := by
    intro n
    induction n with
    | zero => intro P h; rw [List.length_eq_zero_iff.1 h]; exact ⟨Nat.le_refl _, by simp [ovL]⟩
    | succ n ih =>
      intro P h
      have hne : P ≠ [] := by rintro rfl; simp at h
      obtain ⟨Q, x, rfl⟩ : ∃ Q x, P = Q ++ [x] := ⟨_, _, (List.dropLast_concat_getLast hne).symm⟩
      rw [ovL_snoc, ins_length _ _ _ (ovL_sorted Q).1, List.length_append, List.length_singleton, List.map_append, List.map_singleton, List.nodup_append]
      obtain ⟨h1, h2⟩ := ih Q (by rw [List.length_append, List.length_singleton] at h; omega)
      by_cases hm : keyP x ∈ Q.map keyP
      · rw [if_pos (((ovL_sorted Q).2.1 _).2 hm)]
        exact ⟨by omega, ⟨fun he => by omega, fun ⟨_, _, h5⟩ => absurd rfl (h5 _ hm _ (by simp))⟩⟩
      · rw [if_neg (fun h => hm (((ovL_sorted Q).2.1 _).1 h))]
        refine ⟨by omega, ⟨fun he => ⟨h2.1 (by omega), by simp, fun a ha b hb => ?_⟩, fun ⟨h4, _⟩ => by have := h2.2 h4; omega⟩⟩
        rw [List.mem_singleton] at hb
        rintro rfl
        exact hm (hb ▸ ha)
  exact h _ P rfl
end Go.Proofs.Ytcbpdjenncbbeaa
/- Slices of slices: what s[:i] and s[i:] are, and what they read as. -/
namespace Go.Proofs.Ytcbpdjenncbbeaa
open Go.RowKit
namespace Rep
variable {α : Type} [Inhabited α] {R : Rep α} {P : Program}
theorem Ty.elem {t : TypeId} {bytes : Nat} (hT : Ty P t R bytes) : P.elem t = R.T := by
  unfold Program.elem; rw [hT.ht]
theorem Ty.elem' {t : TypeId} {bytes : Nat} (hT : Ty P t R bytes) : P.underlying t = some (.slice (P.elem t)) := by rw [hT.elem]; exact hT.ht
theorem Ty.size {t : TypeId} {bytes : Nat} (hT : Ty P t R bytes) (w : World) : (sizeOf (P.elem t)).run P w = .ok R.k w := by
  rw [hT.elem]
  obtain ⟨i, z, h1, h2, h3, h4, h5⟩ := hT.hi
  simp [sizeOf, typeInfo, h1, h3]
/-- where the cut slice begins -/
def cutAddr (a : Option Addr) (l m k : Nat) : Option Addr := if m = l then a else a.map (·.add (l * k))
theorem cutAddr_some {b o l m k : Nat} : ∃ o', cutAddr (some ⟨b, o, none⟩) l m k = some ⟨b, o', none⟩ ∧ (m ≠ l → o' = o + l * k) := by
  unfold cutAddr
  split
  · rename_i h; exact ⟨o, rfl, fun h' => absurd h h'⟩
  · refine ⟨o + l * k, ?_, fun _ => rfl⟩
    show some ((⟨b, o, none⟩ : Addr).add (l * k)) = _
    unfold Addr.add; split <;> simp_all
theorem cutAddr_none {l m k : Nat} : cutAddr none l m k = none := by unfold cutAddr; split <;> rfl
theorem cutAddr_isNone {a : Option Addr} {l m k : Nat} (h : cutAddr a l m k = none) : a = none := by
  unfold cutAddr at h
  split at h
  · exact h
  · cases a with
    | none => rfl
    | some _ => cases h
theorem cut_from {t : TypeId} {bytes : Nat} (hT : Ty P t R bytes) {w : World} {a : Option Addr} {n c : Nat} {L : List α} (hs : R.Sl w a n c L) (hnc : n ≤ c) (hn0 : a = none → c = 0) {i : Nat} (hi : i ≤ n) :
    ∃ sa, (∀ W, (Instr.sliceAt t (.slice a n c) (some (.int .i64 (i : Int))) none none).run P W = .ok (.slice sa (n - i) (c - i)) W) ∧ (∀ W, (Instr.slice t (.slice a n c) (some (.int .i64 (i : Int))) none none).run P W = .ok (.slice sa (n - i) (c - i)) W) ∧
      R.Sl w sa (n - i) (c - i) (L.drop i) ∧ (sa = none → c - i = 0) ∧ ∀ b o, a = some ⟨b, o, none⟩ → ∃ o', sa = some ⟨b, o', none⟩ := by
  have h2 : ∀ W, (Instr.slice t (.slice a n c) (some (.int .i64 (i : Int))) none none).run P W = .ok (.slice (cutAddr a i c R.k) (n - i) (c - i)) W := fun W => by
    rw [run_slice_l W t a n c hT.elem' .i64 (i : Int) (by omega) (by omega), hT.size W]
    simp only [Result.andThen, sliced, Int.toNat_natCast, cutAddr]
  refine ⟨cutAddr a i c R.k, fun W => ?_, h2, ⟨by rw [List.length_drop, ← hs.len], by have := hs.max; omega, fun h0 => ?_⟩, fun e => ?_, fun b o e => ?_⟩
  · rw [run_sliceAt_slice W t _ _ _ _ hT.elem']; exact h2 W
  · obtain ⟨b, o, e, hr⟩ := hs.row (by omega)
    obtain ⟨o', e', ho'⟩ := cutAddr_some (b := b) (o := o) (l := i) (m := c) (k := R.k)
    rw [e, e']
    refine ⟨b, o', rfl, ?_⟩
    rw [ho' (by omega)]
    exact hr.drop i
  · rw [hn0 (cutAddr_isNone e)]; omega
  · subst e
    obtain ⟨o', e', -⟩ := cutAddr_some (b := b) (o := o) (l := i) (m := c) (k := R.k)
    exact ⟨o', e'⟩
theorem cut_to {t : TypeId} {bytes : Nat} (hT : Ty P t R bytes) {w : World} {a : Option Addr} {n c : Nat} {L : List α} (hs : R.Sl w a n c L) (hnc : n ≤ c) (hn0 : a = none → c = 0) {i : Nat} (hi : i ≤ n) :
    ∃ sa, (∀ W, (Instr.sliceAt t (.slice a n c) none (some (.int .i64 (i : Int))) none).run P W = .ok (.slice sa i c) W) ∧ (∀ W, (Instr.slice t (.slice a n c) none (some (.int .i64 (i : Int))) none).run P W = .ok (.slice sa i c) W) ∧
      R.Sl w sa i c (L.take i) ∧ (sa = none → c = 0) ∧ ∀ b o, a = some ⟨b, o, none⟩ → ∃ o', sa = some ⟨b, o', none⟩ := by
  have h2 : ∀ W, (Instr.slice t (.slice a n c) none (some (.int .i64 (i : Int))) none).run P W = .ok (.slice (cutAddr a 0 c R.k) i c) W := fun W => by
    rw [run_slice_h W t a n c hT.elem' .i64 (i : Int) (by omega) (by omega), hT.size W]
    simp only [Result.andThen, sliced, Int.toNat_natCast, cutAddr, Nat.sub_zero]
  refine ⟨cutAddr a 0 c R.k, fun W => ?_, h2, ⟨by rw [List.length_take, ← hs.len]; omega, by have := hs.max; omega, fun h0 => ?_⟩, fun e => hn0 (cutAddr_isNone e), fun b o e => ?_⟩
  · rw [run_sliceAt_slice W t _ _ _ _ hT.elem']; exact h2 W
  · obtain ⟨b, o, e, hr⟩ := hs.row (by omega)
    obtain ⟨o', e', ho'⟩ := cutAddr_some (b := b) (o := o) (l := 0) (m := c) (k := R.k)
    rw [e, e']
    refine ⟨b, o', rfl, ?_⟩
    rw [ho' (by omega), Nat.zero_mul, Nat.add_zero]
    exact hr.take i
  · subst e
    obtain ⟨o', e', -⟩ := cutAddr_some (b := b) (o := o) (l := 0) (m := c) (k := R.k)
    exact ⟨o', e'⟩
end Rep
end Go.Proofs.Ytcbpdjenncbbeaa
/- A slice cut to its first k, with room for no more. -/
namespace Go.Proofs.Ytcbpdjenncbbeaa
namespace Rep
open Go.RowKit
variable {P : Program} {α : Type} [Inhabited α] {R : Rep α}
theorem cut_kk {t : TypeId} {bytes : Nat} (hT : Ty P t R bytes) {w : World} {a : Option Addr} {n c : Nat} {L : List α} (hs : R.Sl w a n c L) (hnc : n ≤ c) {i : Nat} (hi : i ≤ n) :
    ∃ sa, (∀ W, (Instr.sliceAt t (.slice a n c) none (some (.int .i64 (i : Int))) (some (.int .i64 (i : Int)))).run P W = .ok (.slice sa i i) W) ∧ (∀ W, (Instr.slice t (.slice a n c) none (some (.int .i64 (i : Int))) (some (.int .i64 (i : Int)))).run P W = .ok (.slice sa i i) W) ∧
      R.Sl w sa i i (L.take i) := by
  have h2 : ∀ W, (Instr.slice t (.slice a n c) none (some (.int .i64 (i : Int))) (some (.int .i64 (i : Int)))).run P W = .ok (.slice (cutAddr a 0 i R.k) i i) W := fun W => by
    rw [run_slice_hm W t a n c hT.elem' .i64 .i64 (i : Int) (i : Int) (by omega) (by omega) (by omega), hT.size W]
    simp only [Result.andThen, sliced, Int.toNat_natCast, cutAddr, Nat.sub_zero]
  refine ⟨cutAddr a 0 i R.k, fun W => ?_, h2, ⟨by rw [List.length_take, ← hs.len]; omega, by have := hs.max; omega, fun h0 => ?_⟩⟩
  · rw [run_sliceAt_slice W t _ _ _ _ hT.elem']; exact h2 W
  · obtain ⟨b, o, e, hr⟩ := hs.row (by omega)
    obtain ⟨o', e', ho'⟩ := cutAddr_some (b := b) (o := o) (l := 0) (m := i) (k := R.k)
    rw [e, e']
    refine ⟨b, o', rfl, ?_⟩
    rw [ho' (by omega), Nat.zero_mul, Nat.add_zero]
    exact hr.take i
end Rep
end Go.Proofs.Ytcbpdjenncbbeaa
/- append onto a slice that is full: what it gives lies in a new block. -/
namespace Go.Proofs.Ytcbpdjenncbbeaa
open Go Go.RowKit
namespace Rep
variable {α : Type} [Inhabited α] {R : Rep α} {P : Program} {ops : Array Oper} {rest : List Oper} {o : Oper} {a : Act} {Q : Exit → Act → World → Prop} {w : World}
theorem run_append_cut {t ty : TypeId} {bytes : Nat} (hT : Ty P t R bytes) {sa : Option Addr} {k : Nat} {L : List α} (hL : R.Sl w sa k k L) {sb : Option Addr} {m c : Nat} {M : List α} (hM : R.Sl w sb m c M) (h0 : 0 < m)
    (hmax : k + m ≤ maxLen) (hbytes : (k + m) * bytes ≤ 140737488355328) :
    ∃ v' w', (Builtin.append_ #[t, t] ty #[.slice sa k k, .slice sb m c]).run P w = .ok v' w' ∧ R.Own w' w.heap.size v' (L ++ M) ∧ Below w.heap.size w w' := by
  obtain ⟨b, off, rfl, hr⟩ := hM.row h0
  cases sa with
  | none =>
    have hk : k = 0 := by
      rcases Nat.eq_zero_or_pos k with h | h
      · exact h
      · obtain ⟨_, _, e, _⟩ := hL.row h; cases e
    subst hk
    obtain rfl : L = [] := List.length_eq_zero_iff.1 hL.len.symm
    obtain ⟨v', w', e1, e2, e3, _⟩ := run_append_list (ty := ty) hT (Own.nil (R := R) w w.heap.size) hM (fun h => by cases h) (by simpa using hmax) (by simpa using hbytes) (Nat.le_refl _)
    exact ⟨v', w', e1, e2, e3⟩
  | some ad =>
    obtain ⟨i, z, h1, h2, h3, h4, h5⟩ := hT.hi
    have holds : ∀ j u, (R.flat L)[j]? = some u → w.cell? (ad.add j) = some u := by
      rcases Nat.eq_zero_or_pos k with hk | hk
      · obtain rfl : L = [] := List.length_eq_zero_iff.1 (hL.len.symm.trans hk)
        intro j u hu; simp [flat] at hu
      · obtain ⟨b', o', e, hr'⟩ := hL.row hk
        cases e
        exact news_of_row hr'
    have hsmall : k + m ≤ 9223372036854775807 := by simp only [maxLen] at hmax; omega
    have hlo : (R.flat L).length = k * i.size := by rw [R.flat_length, ← hL.len, h3]
    have hln : (R.flat M).length = m * i.size := by rw [R.flat_length, ← hM.len, h3]
    have hrun := run_append_grow (P := P) w t ty R.T i z hT.ht h1 h2 ad k k (R.flat L) hlo holds ⟨b, off, none⟩ m c (R.flat M) hln (news_of_row hr) (by omega) (by omega) (growslice_fits (by omega) (by rw [h4]; exact hbytes))
    have hge := grownCap_ge w (k + m) k R.T
    have hcm : grownCap w (k + m) k R.T ≤ maxLen := grownCap_le_maxLen w (k + m) k R.T hmax
    refine ⟨_, _, hrun, ?_, ((Below.refl w.heap.size w).drew).alloc (Nat.le_refl _) _⟩
    show World.ownsRow _ _ R.T R.k _ (L ++ M).length (R.flat (L ++ M))
    rw [R.flat_append, List.length_append, ← hL.len, ← hM.len]
    refine ⟨by rw [List.length_append, hlo, hln, h3, Nat.add_mul], .inr ⟨w.heap.size, _, _, rfl, Nat.le_refl _, hnew w.drew _, hge, hcm, ?_, ?_⟩⟩
    · simp only [Array.size_append, List.size_toArray, size_zeroCells, h5, hlo, hln, h3, ← Nat.add_mul]
      congr 1
      omega
    · simp only [Array.toList_append, List.append_assoc]
      rw [← List.append_assoc]
      have e : (k + m) * R.k = (R.flat L ++ R.flat M).length := by rw [List.length_append, hlo, hln, h3, Nat.add_mul]
      rw [e]
      exact List.take_left
theorem sl_one {b c : Nat} {y : α} {T : TypeId} {fr : Nat × Nat} (h : w.heap[b]? = some (.cells (R.cells y).toArray T fr)) : R.Sl w (some ⟨b, 0, none⟩) 1 c [y] :=
  ⟨rfl, by unfold maxLen; omega, fun _ => ⟨b, 0, rfl, lt_of_blk h, fun i hi j hj => by
    obtain rfl : i = 0 := by simp at hi; exact hi
    rw [Nat.zero_mul, Nat.zero_add]
    have hs : j < (R.cells y).toArray.size := by simp [R.len, hj]
    rw [cell_of h (Array.getElem?_eq_getElem hs)]
    simp [List.getElem?_eq_getElem (show j < (R.cells y).length by rw [R.len]; exact hj)]⟩⟩
theorem sl_nil {a : Option Addr} {c : Nat} : R.Sl w a 0 c [] := ⟨rfl, by unfold maxLen; omega, fun h => absurd h (Nat.lt_irrefl _)⟩
theorem own_empty {b base : Nat} (h : w.heap[b]? = some (.cells #[] R.T (0, 0))) (hb : base ≤ b) : R.Own w base (.slice (some ⟨b, 0, none⟩) 0 0) [] :=
  ⟨by simp [flat], .inr ⟨b, 0, #[], rfl, hb, h, Nat.le_refl _, by unfold maxLen; omega, by simp, by simp [flat]⟩⟩
theorem Own.sl0 {base : Nat} {v : Value} {L : List α} (h : R.Own w base v L) : ∃ a c, v = .slice a L.length c ∧ R.Sl w a L.length c L ∧ (a = none → c = 0) := by
  rcases h.cases with ⟨rfl, rfl⟩ | ⟨g, cap, rfl, hg, hl, h1, h2, hr, -⟩
  · exact ⟨none, 0, rfl, sl_nil, fun _ => rfl⟩
  · exact ⟨some ⟨g, 0, none⟩, cap, rfl, ⟨rfl, by omega, fun _ => ⟨g, 0, rfl, hr⟩⟩, fun e => by cases e⟩
theorem append_cut {t : TypeId} {bytes : Nat} (hT : Ty P t R bytes) (hgd : o.guard = none) (s x : Operand) (ho : o.op = .call { callee := .builtin .append, args := #[s, x], argTypes := #[t, t] })
    {sa : Option Addr} {k : Nat} {L : List α} (hs : a.eval s = .slice sa k k) (hL : R.Sl w sa k k L) {sb : Option Addr} {m c : Nat} {M : List α} (hx : a.eval x = .slice sb m c) (hM : R.Sl w sb m c M) (h0 : 0 < m)
    (hmax : k + m ≤ maxLen) (hbytes : (k + m) * bytes ≤ 140737488355328)
    (h : ∀ v' w', R.Own w' w.heap.size v' (L ++ M) → Below w.heap.size w w' → wpList P ops Q rest (a.put o.dst v') w') : wpList P ops Q (o :: rest) a w :=
  wpList_plain hgd fun K hK => by
    obtain ⟨v', w', e1, e2, e3⟩ := run_append_cut hT hL hM h0 hmax hbytes (ty := o.type)
    have hk := hK _ _ (h v' w' e2 e3)
    unfold Oper.wp execOp
    simp only [ho, resolve, invoke, builtin, Sem.run_bind, Sem.run_pure, Result.andThen_ok, List.map_toArray, List.map_cons, List.map_nil, hs, hx, e1]
    exact hk
end Rep
end Go.Proofs.Ytcbpdjenncbbeaa
/- Great structs: an aggregate known by a few of its cells: loaded whole, built, with its cells out of sight. -/
namespace Go.Proofs.Ytcbpdjenncbbeaa
open Go.RowKit

section
variable {P : Program} {ops : Array Oper} {rest : List Oper} {o : Oper} {a : Act} {Q : Exit → Act → World → Prop} {w : World}
theorem halt_load (ty : TypeId) {x : Operand} (_ho : o.op = .load ty x) (h : Halted (wpList P ops Q (o :: rest) a w)) : wpList P ops Q (o :: rest) a w := h
theorem halt_build (ty : TypeId) {x : Array (Nat × Operand)} (_ho : o.op = .build ty x) (h : Halted (wpList P ops Q (o :: rest) a w)) : wpList P ops Q (o :: rest) a w := h
theorem load_whole (hgd : o.guard = none) (ty : TypeId) (x : Operand) (ho : o.op = .load ty x) (b : Nat) (cells : Array Value) (hx : a.eval x = .pointer (some ⟨b, 0, none⟩))
    {T : TypeId} {fr : Nat × Nat} (hb : w.heap[b]? = some (.cells cells T fr)) {d : TypeDesc} (hu : P.underlying ty = some d) (hd : d.isRow = true) (hi : (P.info? ty).map (·.size) = some cells.size)
    (h : wpList P ops Q rest (a.put o.dst (.agg cells)) w) : wpList P ops Q (o :: rest) a w :=
  wpList_plain hgd fun K hK => by
    have hk := hK _ _ h
    unfold Oper.wp execOp
    have hr := run_load_whole (P := P) (ty := ty) hb hu hd hi
    have hl : (Instr.loadAt ty (.pointer (some ⟨b, 0, none⟩))).run P w = .ok (.agg cells) w := by
      simp only [Instr.loadAt, Instr.sureAddr, Sem.run_bind, Sem.run_pure, Result.andThen_ok]
      exact hr
    simp only [ho, hx, Sem.run_bind, hl, Sem.run_pure, Result.andThen_ok]
    exact hk
theorem exec_load_whole (ty : TypeId) (x : Operand) (ho : o.op = .load ty x) (b : Nat) (cells : Array Value) (hx : a.eval x = .pointer (some ⟨b, 0, none⟩))
    {T : TypeId} {fr : Nat × Nat} (hb : w.heap[b]? = some (.cells cells T fr)) {d : TypeDesc} (hu : P.underlying ty = some d) (hd : d.isRow = true) (hi : (P.info? ty).map (·.size) = some cells.size) : (execOp a.eval o).run P w = .ok (.value (.agg cells)) w := by
  have hl : (Instr.loadAt ty (.pointer (some ⟨b, 0, none⟩))).run P w = .ok (.agg cells) w := by
    simp only [Instr.loadAt, Instr.sureAddr, Sem.run_bind, Sem.run_pure, Result.andThen_ok]
    exact run_load_whole (P := P) (ty := ty) hb hu hd hi
  unfold execOp
  simp only [ho, hx, Sem.run_bind, hl, Sem.run_pure, Result.andThen_ok]
theorem exec_build (ty : TypeId) (x : Array (Nat × Operand)) (ho : o.op = .build ty x) (cells : Array Value) (hp : P.built ty (x.toList.map (fun p => (p.1, a.eval p.2))) = some cells) : (execOp a.eval o).run P w = .ok (.value (.agg cells)) w := by
  have hl := run_build (P := P) w ty (x.map (fun p => (p.1, a.eval p.2))) cells (by rw [Array.toList_map]; exact hp)
  unfold execOp
  simp only [ho, Sem.run_bind, hl, Sem.run_pure, Result.andThen_ok]
/-- an operation that yields a value -/
theorem op_value (hgd : o.guard = none) (v : Value) (hrun : (execOp a.eval o).run P w = .ok (.value v) w) (h : wpList P ops Q rest (a.put o.dst v) w) : wpList P ops Q (o :: rest) a w :=
  wpList_plain hgd fun K hK => by
    have hk := hK _ _ h
    unfold Oper.wp
    rw [hrun]
    exact hk
end
/-- the cells v are laid from off on -/
theorem lay_get (l : List Value) : ∀ (k off : Nat) (cs : Array Value), ((l.zipIdx k).foldl (fun cs (p : Value × Nat) => cs.setIfInBounds (off + p.2) p.1) cs).size = cs.size ∧
    ∀ j, off + k + l.length ≤ cs.size → ((l.zipIdx k).foldl (fun cs (p : Value × Nat) => cs.setIfInBounds (off + p.2) p.1) cs)[j]? = if off + k ≤ j ∧ j < off + k + l.length then l[j - (off + k)]? else cs[j]? := by
  induction l with
  | nil => intro k off cs; exact ⟨rfl, fun j _ => by rw [if_neg (by simp)]; rfl⟩
  | cons x r ih =>
    intro k off cs
    obtain ⟨h1, h2⟩ := ih (k + 1) off (cs.setIfInBounds (off + k) x)
    rw [List.zipIdx_cons, List.foldl_cons]
    refine ⟨by rw [h1]; simp, fun j hj => ?_⟩
    rw [List.length_cons] at hj ⊢
    rw [h2 j (by simp; omega), Array.getElem?_setIfInBounds]
    by_cases e : off + k = j
    · subst e
      rw [if_neg (by omega), if_pos rfl, if_pos (by omega), if_pos (by omega)]
      simp
    · by_cases c : off + (k + 1) ≤ j ∧ j < off + (k + 1) + r.length
      · rw [if_pos c, if_pos (by omega)]
        rw [show j - (off + k) = (j - (off + (k + 1))) + 1 by omega, List.getElem?_cons_succ]
      · rw [if_neg c, if_neg e, if_neg (by omega)]
theorem lay_arr (v : Array Value) (off : Nat) (cs : Array Value) : (v.zipIdx.foldl (fun cs (p : Value × Nat) => cs.setIfInBounds (off + p.2) p.1) cs).size = cs.size ∧
    ∀ j, off + v.size ≤ cs.size → (v.zipIdx.foldl (fun cs (p : Value × Nat) => cs.setIfInBounds (off + p.2) p.1) cs)[j]? = if off ≤ j ∧ j < off + v.size then v[j - off]? else cs[j]? := by
  have h := lay_get v.toList 0 off cs
  rw [← Array.foldl_toList, Array.toList_zipIdx]
  refine ⟨h.1, fun j hj => ?_⟩
  have h2 := h.2 j (by simpa using hj)
  simp only [Nat.add_zero, Array.length_toList, Array.getElem?_toList] at h2
  exact h2
end Go.Proofs.Ytcbpdjenncbbeaa
/- Quiet steps of a drawn region: a guard that holds; a struct loaded whole; a call. -/
namespace Go.Proofs.Ytcbpdjenncbbeaa
open Go Go.RowKit

section
variable {P : Program} {ops : Array Oper} {C : World → Prop} {Q : Act → Prop} {K : Act → Prop} {a : Act} {o : Oper} {rest : List Oper}
theorem wpQuiet_yes (h : ∀ K : Act → Prop, (∀ a, wpQuiet P ops C Q rest a → K a) → o.quiet P a C K) (hw : Region.wanted o (yielded ops a.tmps) = true) : wpQuiet P ops C Q (o :: rest) a := by
  unfold wpQuiet
  rw [if_pos hw]
  exact h _ fun _ h => h
theorem quiet_value (v : Value) (h : ∀ w, C w → (execOp a.eval o).run P w = .ok (.value v) w) (hK : K (a.put o.dst v)) : o.quiet P a C K :=
  ⟨v, fun w hw => by unfold Oper.quietAt; rw [h w hw]; exact ⟨rfl, rfl⟩, hK⟩
theorem exec_load_mid {w : World} (ty : TypeId) (x : Operand) (ho : o.op = .load ty x) (b off : Nat) (cells : Array Value) (hx : a.eval x = .pointer (some ⟨b, off, none⟩))
    (hb : w.rangeAt b off cells.toList) {d : TypeDesc} (hu : P.underlying ty = some d) (hd : d.isRow = true) (hi : (P.info? ty).map (·.size) = some cells.size) : (execOp a.eval o).run P w = .ok (.value (.agg cells)) w := by
  have hr := run_loadVar_mid (P := P) w b off ty cells.toList d hb hu hd (by simpa using hi)
  have hl : (Instr.loadAt ty (.pointer (some ⟨b, off, none⟩))).run P w = .ok (.agg cells) w := by
    simp only [Instr.loadAt, Instr.sureAddr, Sem.run_bind, Sem.run_pure, Result.andThen_ok]
    simpa using hr
  unfold execOp
  simp only [ho, hx, Sem.run_bind, hl, Sem.run_pure, Result.andThen_ok]
theorem quiet_load (ty : TypeId) (x : Operand) (ho : o.op = .load ty x) (b off : Nat) (cells : Array Value) (hx : a.eval x = .pointer (some ⟨b, off, none⟩))
    (hb : ∀ w, C w → w.rangeAt b off cells.toList) {d : TypeDesc} (hu : P.underlying ty = some d) (hd : d.isRow = true) (hi : (P.info? ty).map (·.size) = some cells.size) (hK : K (a.put o.dst (.agg cells))) : o.quiet P a C K :=
  quiet_value _ (fun _ hw => exec_load_mid ty x ho b off cells hx (hb _ hw) hu hd hi) hK
theorem rangeAt_block {w : World} {b : Nat} {cells : Array Value} {T : TypeId} {fr : Nat × Nat} (h : w.heap[b]? = some (.cells cells T fr)) (off : Nat) (l : List Value) (hl : (cells.toList.drop off).take l.length = l) : w.rangeAt b off l := by
  intro j v hv
  refine cell_of h ?_
  have hj : j < l.length := (List.getElem?_eq_some_iff.1 hv).1
  rw [← hl] at hv
  rw [List.getElem?_take, if_pos hj, List.getElem?_drop] at hv
  simpa using hv
end
end Go.Proofs.Ytcbpdjenncbbeaa
/- A struct loaded whole, as one of those that read ahead of a write. -/
namespace Go.Proofs.Ytcbpdjenncbbeaa
open Go Go.RowKit
section
variable {P : Program} {ops : Array Oper} {S : World → Prop} {L : Act → Prop} {K : Act → Prop} {a : Act} {o : Oper} {rest : List Oper}
theorem wpRead_yes (h : ∀ K : Act → Prop, (∀ a, wpRead P ops S L rest a → K a) → ∃ v, (∀ w, S w → (execOp a.eval o).run P w = .ok (.value v) w) ∧ K (a.put o.dst v)) (hw : Region.wanted o (yielded ops a.tmps) = true) : wpRead P ops S L (o :: rest) a := by
  unfold wpRead
  rw [if_pos hw]
  exact h _ fun _ h => h
theorem read_load (ty : TypeId) (x : Operand) (ho : o.op = .load ty x) (b off : Nat) (cells : Array Value) (hx : a.eval x = .pointer (some ⟨b, off, none⟩))
    (hb : ∀ w, S w → w.rangeAt b off cells.toList) {d : TypeDesc} (hu : P.underlying ty = some d) (hd : d.isRow = true) (hi : (P.info? ty).map (·.size) = some cells.size) (hK : K (a.put o.dst (.agg cells))) : ∃ v, (∀ w, S w → (execOp a.eval o).run P w = .ok (.value v) w) ∧ K (a.put o.dst v) :=
  ⟨_, fun _ hw => exec_load_mid ty x ho b off cells hx (hb _ hw) hu hd hi, hK⟩
end
end Go.Proofs.Ytcbpdjenncbbeaa
/- A region that draws its order, in which things are read ahead of one operation t that writes what was read. -/
namespace Go.Proofs.Ytcbpdjenncbbeaa
open Go Go.RowKit

section
variable {P : Program} {ops : Array Oper} {md : Region.Mode} {S : World → Prop}

/-- whatever order is picked: S holds behind every operation but t -/
def wpAnyT (P : Program) (md : Region.Mode) (ops : Array Oper) (Q : Exit → Act → World → Prop) (t : Nat) (S : World → Prop) : Nat → Array Bool → Act → World → Prop
  | 0, l0, a, w => Region.ready md ops l0 = [] ∧ Q .normal a w
  | f + 1, l0, a, w => (Region.ready md ops l0 = [] → Q .normal a w) ∧ ∀ j ∈ Region.ready md ops l0, wpOp P ops Q j (fun a' w' => (j ≠ t → S w') ∧ wpAnyT P md ops Q t S f (l0.setIfInBounds j true) a' w') a w
theorem any_of_T {Q : Exit → Act → World → Prop} {t : Nat} : ∀ (f : Nat) (l0 : Array Bool) (a : Act) (w : World), wpAnyT P md ops Q t S f l0 a w → wpAny P md ops Q f l0 a w
  | 0, _, _, _, h => h
  | f + 1, _, _, _, h => ⟨h.1, fun j hj => wpOp_mono (fun a' w' h' => any_of_T f _ a' w' h'.2) (h.2 j hj)⟩
theorem T_first {Q : Exit → Act → World → Prop} {t i : Nat} {oi : Oper} {v : Value} {l0 : Array Bool} (hi : ops[i]? = some oi) (hsel : ∀ (j : Nat) (o : Oper) cs b, ops[j]? = some o → o.op ≠ .select cs b) (hQ : ∀ c (a : Act) w, Q (.panic c) (a.put oi.dst v) w → Q (.panic c) a w) (hit : i ∈ ancs md ops t) (f : Nat) :
    ∀ (listed : Array Bool) (a : Act) (w : World), SInv md ops l0 listed →
      (∀ j oj, ops[j]? = some oj → j ≠ i → listed.getD j true = false → (∀ e ∈ oj.after, Region.binds md e = true → e.on ≠ i) → oi.apart ops oj = true) →
      i ∈ Region.ready md ops listed → YieldsIf P ops S oi v a → S w → wpAnyT P md ops Q t S f (listed.setIfInBounds i true) (a.put oi.dst v) w → wpAnyT P md ops Q t S (f + 1) listed a w := by
  induction f with
  | zero =>
    intro listed a w inv _ hr hy hS H
    refine ⟨fun h => (by rw [h] at hr; cases hr), fun j hj => ?_⟩
    by_cases hji : j = i
    · subst hji; exact hy.wpOp hi hS ⟨fun _ => hS, H⟩
    · have h1 := ready_mono hj hji
      rw [H.1] at h1; cases h1
  | succ f ih =>
    intro listed a w inv hfree hr hy hS H
    refine ⟨fun h => (by rw [h] at hr; cases hr), fun j hj => ?_⟩
    have hun := (mem_ready.1 hr).1
    by_cases hji : j = i
    · subst hji; exact hy.wpOp hi hS ⟨fun _ => hS, H⟩
    obtain ⟨hjun, oj, hoj, hall⟩ := mem_ready.1 hj
    have hjt : j ≠ t := by
      rintro rfl
      have := inv.ancs hj i hit
      rw [getD_both hun] at this; cases this
    have hnot : ∀ e ∈ oj.after, Region.binds md e = true → e.on ≠ i := by
      intro e he hb heq
      have h1 := hall e he hb
      rw [heq, getD_both hun] at h1
      cases h1
    have h2 := wpOp_putIf hoj (hfree j oj hoj hji hjun hnot) (fun cs b => hsel i oi cs b hi) (fun cs b => hsel j oj cs b hoj) hQ hy (H.2 j (ready_mono hj hji))
    refine wpOp_mono (fun a' w' h3 => ⟨h3.2.1, ih (listed.setIfInBounds j true) a' w' (inv.set hj) ?_ (ready_mono hr (Ne.symm hji)) h3.1 (h3.2.1 hjt) ?_⟩) h2
    · intro k ok hk hki hun' hno
      refine hfree k ok hk hki ?_ hno
      by_cases hjk : j = k
      · subst hjk; exact hjun
      · rw [getD_set_ne true hjk] at hun'; exact hun'
    · rw [Array.setIfInBounds_comm _ _ hji]; exact h3.2.2
def readsB (md : Region.Mode) (ops : Array Oper) (t : Nat) (hd : List Nat) (l0 : Array Bool) : Bool := Region.noSelect ops && closedB md ops l0 && hd.all (fun i => (ancs md ops t).contains i) && pureS md ops hd l0
theorem readsT_go {Q : Exit → Act → World → Prop} {t g : Nat} {w : World} (hsel : Region.noSelect ops = true) (hS : S w) (hQ : ∀ c (a : Act) d v w, Q (.panic c) (a.put d v) w → Q (.panic c) a w) {l1 : Array Bool} : ∀ (hd : List Nat) (l0 : Array Bool) (a : Act), SInv md ops l1 l0 → (∀ i ∈ hd, i ∈ ancs md ops t) → pureS md ops hd l0 = true → wpRead P ops S (fun a' => wpAnyT P md ops Q t S g (setAll hd l0) a' w) (pick ops.toList hd) a → wpAnyT P md ops Q t S (hd.length + g) l0 a w
  | [], l0, a, _, _, _, h => by rw [List.length_nil, Nat.zero_add]; exact h
  | i :: r, l0, a, inv, ht, hB, h => by
    simp only [pureS, Bool.and_eq_true] at hB
    obtain ⟨⟨hr, hf⟩, hB'⟩ := hB
    have hr' : i ∈ Region.ready md ops l0 := by simpa using hr
    obtain ⟨o, ho⟩ := ready_lt (md := md) (ops := ops) (listed := l0) (i := i) hr'
    have hp : pick ops.toList (i :: r) = o :: pick ops.toList r := by simp [pick, List.getD_eq_getElem?_getD, ho]
    rw [hp] at h
    rw [List.length_cons, Nat.succ_add]
    unfold wpRead at h
    by_cases hw : Region.wanted o (yielded ops a.tmps) = true
    · rw [if_pos hw] at h
      obtain ⟨v, hv, hrest⟩ := h
      exact T_first ho (Region.noSelect_spec hsel) (fun c a w => hQ c a _ _ w) (ht i (by simp)) _ l0 a w inv (Region.free_spec ho hf) hr' (.inl ⟨hw, hv⟩) hS (readsT_go hsel hS hQ r _ _ (inv.set hr') (fun j hj => ht j (by simp [hj])) hB' hrest)
    · rw [if_neg hw] at h
      exact T_first ho (Region.noSelect_spec hsel) (fun c a w => hQ c a _ _ w) (ht i (by simp)) _ l0 a w inv (Region.free_spec ho hf) hr' (.inr ⟨by simpa using hw, rfl⟩) hS (readsT_go hsel hS hQ r _ _ (inv.set hr') (fun j hj => ht j (by simp [hj])) hB' h)
/-- those that only read what S says may be taken first, if t waits for them -/
theorem T_reads {Q : Exit → Act → World → Prop} {t g n : Nat} (hd : List Nat) (hn : hd.length + g = n) {l0 : Array Bool} {a : Act} {w : World} (hB : readsB md ops t hd l0 = true) (hS : S w) (hQ : ∀ c (a : Act) d v w, Q (.panic c) (a.put d v) w → Q (.panic c) a w)
    (h : wpRead P ops S (fun a' => wpAnyT P md ops Q t S g (setAll hd l0) a' w) (pick ops.toList hd) a) : wpAnyT P md ops Q t S n l0 a w := by
  subst hn
  simp only [readsB, Bool.and_eq_true] at hB
  exact readsT_go hB.1.1.1 hS hQ hd l0 a (sinv_of hB.1.1.2) (fun i hi => by simpa using List.all_eq_true.1 hB.1.2 i hi) hB.2 h
/-- one that comes up alone -/
theorem T_one {Q : Exit → Act → World → Prop} {t g : Nat} (i : Nat) {l0 : Array Bool} {a : Act} {w : World} (hB : decide (Region.ready md ops l0 = [i]) = true)
    (h : wpList P ops (Exit.then (fun a' w' => (i ≠ t → S w') ∧ wpAnyT P md ops Q t S g (l0.setIfInBounds i true) a' w') Q) (pick ops.toList [i]) a w) : wpAnyT P md ops Q t S (g + 1) l0 a w := by
  have hr : Region.ready md ops l0 = [i] := by simpa using hB
  obtain ⟨o, ho⟩ := ready_lt (md := md) (ops := ops) (listed := l0) (i := i) (by rw [hr]; simp)
  refine ⟨fun h0 => (by rw [h0] at hr; cases hr), ?_⟩
  rw [hr]
  intro j hj
  obtain rfl : j = i := by simpa using hj
  have hp : pick ops.toList [j] = [o] := by simp [pick, List.getD_eq_getElem?_getD, ho]
  rw [hp] at h
  unfold wpOp
  simp only [ho]
  unfold wpList at h
  by_cases hw : Region.wanted o (yielded ops a.tmps) = true
  · rw [if_pos hw] at h ⊢
    refine h.imp (fun h => wp_then (Oper.wp_mono (fun a' w' h' => h') h)) (fun h => ⟨h.1, let ⟨a, w, h⟩ := h.2; ⟨a, w, h⟩⟩)
  · rw [if_neg hw] at h ⊢
    exact h
theorem T_done {Q : Exit → Act → World → Prop} {t : Nat} {l0 : Array Bool} {a : Act} {w : World} (hr : Region.ready md ops l0 = []) (h : Q .normal a w) : ∀ f, wpAnyT P md ops Q t S f l0 a w
  | 0 => ⟨hr, h⟩
  | _ + 1 => ⟨fun _ => h, by rw [hr]; simp⟩
theorem wp_region_T {id : Nat} {Q : Exit → Act → World → Prop} {a : Act} {w : World} {l : List Oper} (t : Nat) (S : World → Prop) (hm : P.follows .mixedOrders = true)
    (h : wpAnyT P .any l.toArray Q t S l.length (Array.replicate l.length false) a w.drew) : (Code.region id l.toArray true).wp P Q a w := by
  refine wp_region_any hm ?_
  simpa using any_of_T _ _ _ _ h
end
end Go.Proofs.Ytcbpdjenncbbeaa
