/- Timers: Due, at most one. -/
import Derived.Test.YtfmehahjjgalfaaEf
namespace Go.Proofs.Ytfmehahjjgalfaa.Tim
open Go.RowKit
open Go.ChangeMaps (setBlock)

def RTk : Rep TK := ⟨31, 2, by decide, fun k => [.int .i64 k.1, .int .i64 k.2], fun _ => rfl, fun _ => rfl⟩
theorem T38 : Rep.Ty Try.prog 38 RTk 16 := Rep.Ty.mk' (z := .agg #[.int .i64 0, .int .i64 0]) Try.underlying38 (by kernel_rfl) rfl
def dueP (now : Int) (x : Tm) : Bool := decide (x.at' ≤ now)
def delK (L : List Tm) (G : List TK) : List Tm := G.foldl (fun L k => L.filter fun x => decide (x.k ≠ k)) L
theorem delK_succ {L : List Tm} {G : List TK} {i : Nat} (hi : i < G.length) : delK L (G.take (i + 1)) = (delK L (G.take i)).filter fun x => decide (x.k ≠ G.getD i default) := by
  unfold delK
  rw [List.take_succ_eq_append_getElem hi, List.foldl_append]
  simp [List.getD_eq_getElem?_getD, hi]
theorem delK_is : ∀ (G : List TK) (L : List Tm), delK L G = L.filter fun x => decide (x.k ∉ G)
  | [], L => by show L = _; symm; rw [List.filter_eq_self]; intro x _; simp
  | o :: G, L => by
    show delK (L.filter fun x => decide (x.k ≠ o)) G = _
    rw [delK_is G, List.filter_filter]
    refine List.filter_congr fun x _ => ?_
    simp [Bool.and_comm]
theorem delK_filter {L : List Tm} (h : (L.map Tm.k).Nodup) (p : Tm → Bool) {G : List TK} (hG : G.Perm ((L.filter p).map Tm.k)) : delK L G = L.filter fun x => !p x := by
  rw [delK_is]
  refine List.filter_congr fun x hx => ?_
  cases hp : p x with
  | true =>
    have : x.k ∈ G := hG.mem_iff.2 (List.mem_map.2 ⟨x, List.mem_filter.2 ⟨hx, hp⟩, rfl⟩)
    simp [this]
  | false =>
    have : x.k ∉ G := by
      rintro hm
      obtain ⟨y, hy, e⟩ := List.mem_map.1 (hG.mem_iff.1 hm)
      obtain ⟨hy1, hy2⟩ := List.mem_filter.1 hy
      rw [Kl.inj_on h hy1 hx e, hp] at hy2
      cases hy2
    simp [this]
theorem sort_few (p : Option Addr) {n : Nat} (hn : n ≤ 1) (c : Nat) (fv : Value) (w : World) : Calls Try.prog 63 #[.slice p n c, fv] w fun e w' => e = .returned (.tuple #[]) ∧ w' = w := by
  have h : n = 0 ∨ n = 1 := by omega
  rcases h with rfl | rfl
  · exact Go.Proofs.AnyF.slices_SortFunc_none sortTm p c fv w
  · exact sort_one p c fv w
theorem due_nil (now : Int) (w : World) : Calls Try.prog 23 #[.pointer none, .int .i64 now] w fun e w' => e = .returned (.slice none 0 0) ∧ w' = w := by
  go_enter Try.func23, Try.ntmps23
  go_wp2_with fail
  go_ret
  exact ⟨rfl, rfl⟩
theorem few_nil {l : List TK} (h : l.length = 0) : l = [] := List.eq_nil_of_length_eq_zero h
theorem okK {w : World} {t bm : Nat} {L : List Tm} (H : TimAt w t bm L) {o : Tm} (ho : o ∈ L) : TN.ok o.k := by
  obtain ⟨clk, es, k1, k2, k3⟩ := H.out
  have h1 := k3.get o.k
  rw [Kl.look_of k3.nd ho] at h1
  obtain ⟨e, he, h2, -⟩ := MR.mem_of_get? h1
  rw [← h2]
  exact k2.ok e he
end Go.Proofs.Ytfmehahjjgalfaa.Tim
