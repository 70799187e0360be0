/- Sums that are capped; counts in memory. -/
import Derived.Test.YtfmehahjjgalfaaDd
namespace Go.Proofs.Ytfmehahjjgalfaa.Me
open Go.RowKit
open Go.ChangeMaps (setBlock)

abbrev most : Int := 9007199254740991
def nearI (n : Int) : Int := if n < 0 then 0 else if 9007199254740991 < n then 9007199254740991 else n
def addI (a b : Int) : Int := nearI (nearI a + nearI b)
theorem nearI_in (n : Int) : 0 ≤ nearI n ∧ nearI n ≤ 9007199254740991 := by unfold nearI; (repeat' split) <;> omega
theorem nearI_id {n : Int} (h : 0 ≤ n ∧ n ≤ 9007199254740991) : nearI n = n := by unfold nearI; (repeat' split) <;> omega
theorem addI_in (a b : Int) : 0 ≤ addI a b ∧ addI a b ≤ 9007199254740991 := nearI_in _
theorem addI_zero {n : Int} (h : 0 ≤ n ∧ n ≤ 9007199254740991) : addI n 0 = n := by
  unfold addI; rw [nearI_id h, nearI_id (n := 0) (by omega), Int.add_zero, nearI_id h]
theorem near_any (n : Int) (w : World) : Calls Try.prog 94 #[.int .i64 n] w fun e w' => e = .returned (.int .i64 (nearI n)) ∧ w' = w := by
  obtain ⟨c, hc⟩ : ∃ c, nearI n = c := ⟨_, rfl⟩
  rw [hc]
  unfold nearI at hc
  by_cases h1 : n < 0
  · have e1 : (n < 0) = True := eq_true h1
    have e1m : max n 0 = 0 := by omega
    have HC := Lib.hid (show 0 = c from by rw [← hc, if_pos h1])
    clear h1 hc
    go_enter Try.func94, Try.ntmps94
    go_wp2_with fail
    go_ret
    exact ⟨ret_int HC.out, rfl⟩
  · have e1 : (n < 0) = False := eq_false h1
    have e1m : max n 0 = n := by omega
    by_cases h2 : 9007199254740991 < n
    · have e2 : (9007199254740991 < n) = True := eq_true h2
      have e2m : min n 9007199254740991 = 9007199254740991 := by omega
      have HC := Lib.hid (show 9007199254740991 = c from by rw [← hc, if_neg h1, if_pos h2])
      clear h1 h2 hc
      go_enter Try.func94, Try.ntmps94
      go_wp2_with fail
      go_ret
      exact ⟨ret_int HC.out, rfl⟩
    · have e2 : (9007199254740991 < n) = False := eq_false h2
      have e2m : min n 9007199254740991 = n := by omega
      have HC := Lib.hid (show n = c from by rw [← hc, if_neg h1, if_neg h2])
      clear h1 h2 hc
      go_enter Try.func94, Try.ntmps94
      go_wp2_with fail
      go_ret
      exact ⟨ret_int HC.out, rfl⟩
theorem rnear_any (n : Int) (w : World) : Calls Try.prog 95 #[.int .i64 n] w fun e w' => e = .returned (.int .i64 (nearI n)) ∧ w' = w := by
  obtain ⟨c, hc⟩ : ∃ c, nearI n = c := ⟨_, rfl⟩
  rw [hc]
  unfold nearI at hc
  by_cases h1 : n < 0
  · have e1 : (n < 0) = True := eq_true h1
    have e1m : max n 0 = 0 := by omega
    have HC := Lib.hid (show 0 = c from by rw [← hc, if_pos h1])
    clear h1 hc
    go_enter Try.func95, Try.ntmps95
    go_wp2_with fail
    go_ret
    exact ⟨ret_int HC.out, rfl⟩
  · have e1 : (n < 0) = False := eq_false h1
    have e1m : max n 0 = n := by omega
    by_cases h2 : 9007199254740991 < n
    · have e2 : (9007199254740991 < n) = True := eq_true h2
      have e2m : min n 9007199254740991 = 9007199254740991 := by omega
      have HC := Lib.hid (show 9007199254740991 = c from by rw [← hc, if_neg h1, if_pos h2])
      clear h1 h2 hc
      go_enter Try.func95, Try.ntmps95
      go_wp2_with fail
      go_ret
      exact ⟨ret_int HC.out, rfl⟩
    · have e2 : (9007199254740991 < n) = False := eq_false h2
      have e2m : min n 9007199254740991 = n := by omega
      have HC := Lib.hid (show n = c from by rw [← hc, if_neg h1, if_neg h2])
      clear h1 h2 hc
      go_enter Try.func95, Try.ntmps95
      go_wp2_with fail
      go_ret
      exact ⟨ret_int HC.out, rfl⟩

theorem add_wrap (a b : Int) : wrap64 (nearI a + nearI b) = nearI a + nearI b := by
  have h1 := nearI_in a
  have h2 := nearI_in b
  unfold wrap64; omega
theorem add_any (a b : Int) (w : World) : Calls Try.prog 77 #[.int .i64 a, .int .i64 b] w fun e w' => e = .returned (.int .i64 (addI a b)) ∧ w' = w := by
  have HA := Lib.hid (near_any a)
  have HB := Lib.hid (near_any b)
  have hw := add_wrap a b
  have HS := Lib.hid (near_any (nearI a + nearI b))
  unfold addI
  generalize nearI a = x at *
  generalize nearI b = y at *
  generalize nearI (x + y) = z at *
  go_enter Try.func77, Try.ntmps77
  go_wp2_with fail
  refine (HA.out _).mono ?_
  rintro e w1 ⟨rfl, hw1⟩
  subst w1
  go_wp2_with fail
  refine (HB.out _).mono ?_
  rintro e w1 ⟨rfl, hw1⟩
  subst w1
  go_wp2_with fail
  refine (HS.out _).mono ?_
  rintro e w1 ⟨rfl, hw1⟩
  subst w1
  go_wp2_with fail
  go_ret
  exact ⟨rfl, rfl⟩
theorem radd_any (a b : Int) (w : World) : Calls Try.prog 79 #[.int .i64 a, .int .i64 b] w fun e w' => e = .returned (.int .i64 (addI a b)) ∧ w' = w := by
  have HA := Lib.hid (rnear_any a)
  have HB := Lib.hid (rnear_any b)
  have hw := add_wrap a b
  have HS := Lib.hid (rnear_any (nearI a + nearI b))
  unfold addI
  generalize nearI a = x at *
  generalize nearI b = y at *
  generalize nearI (x + y) = z at *
  go_enter Try.func79, Try.ntmps79
  go_wp2_with fail
  refine (HA.out _).mono ?_
  rintro e w1 ⟨rfl, hw1⟩
  subst w1
  go_wp2_with fail
  refine (HB.out _).mono ?_
  rintro e w1 ⟨rfl, hw1⟩
  subst w1
  go_wp2_with fail
  refine (HS.out _).mono ?_
  rintro e w1 ⟨rfl, hw1⟩
  subst w1
  go_wp2_with fail
  go_ret
  exact ⟨rfl, rfl⟩

theorem within_any (n a b : Int) (w : World) : Calls Try.prog 75 #[.int .i64 n, .int .i64 a, .int .i64 b] w fun e w' => e = .returned (.bool (decide (a ≤ n) && decide (n ≤ b))) ∧ w' = w := by
  by_cases h1 : a ≤ n
  · have e1 : (a ≤ n) = True := eq_true h1
    by_cases h2 : n ≤ b
    · have e2 : (n ≤ b) = True := eq_true h2
      have HR := Lib.hid (show (decide (a ≤ n) && decide (n ≤ b)) = true from by simp [h1, h2])
      clear h1 h2
      rw [HR.out]
      go_enter Try.func75, Try.ntmps75
      go_wp2_with fail
      go_ret
      exact ⟨rfl, rfl⟩
    · have e2 : (n ≤ b) = False := eq_false h2
      have HR := Lib.hid (show (decide (a ≤ n) && decide (n ≤ b)) = false from by simp [h1, h2])
      clear h1 h2
      rw [HR.out]
      go_enter Try.func75, Try.ntmps75
      go_wp2_with fail
      go_ret
      exact ⟨rfl, rfl⟩
  · have e1 : (a ≤ n) = False := eq_false h1
    have HR := Lib.hid (show (decide (a ≤ n) && decide (n ≤ b)) = false from by simp [h1])
    clear h1
    rw [HR.out]
    go_enter Try.func75, Try.ntmps75
    go_wp2_with fail
    go_ret
    exact ⟨rfl, rfl⟩
structure Ct where
  p : PK
  n : Int
deriving Inhabited, DecidableEq
def Ct.v (x : Ct) : Value := .int .i64 x.n
def RCt : Rep Ct := ⟨128, 3, by decide, fun x => [.int .u32 (x.p.1 : Int), .int .i64 x.p.2, .int .i64 x.n], fun _ => rfl, fun _ => rfl⟩
def look (L : List Ct) (k : PK) : Option Ct := Kl.look Ct.p L k
def cnt (L : List Ct) (k : PK) : Int := match look L k with | some x => x.n | none => 0
def hasC (L : List Ct) (k : PK) : Bool := (look L k).isSome
/-- counts by prefixes in memory -/
structure CntAt (w : World) (bm : Nat) (L : List Ct) : Prop where
  out : ∃ clk es, MR.MapAt PN w bm es clk ∧ Kl.Lay Ct.p Ct.v es L
theorem CntAt.on {w w' : World} {bm : Nat} {L : List Ct} (H : CntAt w bm L) (h2 : w'.heap[bm]? = w.heap[bm]?) : CntAt w' bm L := by
  obtain ⟨clk, es, k2, k3⟩ := H.out
  exact ⟨clk, es, k2.blk_iff PN h2, k3⟩
theorem CntAt.lt {w : World} {bm : Nat} {L : List Ct} (H : CntAt w bm L) : bm < w.heap.size := by
  obtain ⟨clk, es, k2, k3⟩ := H.out
  exact lt_of_blk k2.blk
theorem CntAt.keep {w w' : World} {bm : Nat} {L : List Ct} (H : CntAt w bm L) (hb : Below w.heap.size w w') : CntAt w' bm L := H.on (hb.block _ H.lt)
theorem CntAt.nd {w : World} {bm : Nat} {L : List Ct} (H : CntAt w bm L) : (L.map Ct.p).Nodup := by
  obtain ⟨clk, es, k2, k3⟩ := H.out
  exact k3.nd
theorem CntAt.lookup {w : World} {bm : Nat} {L : List Ct} (H : CntAt w bm L) {k : PK} (hk : PN.ok k) (W : World) (hW : W.heap[bm]? = w.heap[bm]?) :
    (Instr.lookup 129 (.map (some bm)) (.agg #[.int .u32 (k.1 : Int), .int .i64 k.2]) true).run Try.prog W = .ok (.tuple #[.int .i64 (cnt L k), .bool (hasC L k)]) W := by
  obtain ⟨clk, es, k2, k3⟩ := H.out
  have h := MR.run_lookup PN (k2.blk_iff PN hW) hk Try.underlying129 (z := .int .i64 0) (fun w => by kernel_rfl) true
  rw [k3.get, if_pos rfl] at h
  have e1 : ((Kl.look Ct.p L k).map Ct.v).getD (.int .i64 0) = .int .i64 (cnt L k) := by unfold cnt look; cases Kl.look Ct.p L k <;> rfl
  have e2 : ((Kl.look Ct.p L k).map Ct.v).isSome = hasC L k := by unfold hasC look; cases Kl.look Ct.p L k <;> rfl
  rw [e1, e2] at h
  exact h
theorem CntAt.lookup1 {w : World} {bm : Nat} {L : List Ct} (H : CntAt w bm L) {k : PK} (hk : PN.ok k) (W : World) (hW : W.heap[bm]? = w.heap[bm]?) :
    (Instr.lookup 129 (.map (some bm)) (.agg #[.int .u32 (k.1 : Int), .int .i64 k.2]) false).run Try.prog W = .ok (.int .i64 (cnt L k)) W := by
  obtain ⟨clk, es, k2, k3⟩ := H.out
  have h := MR.run_lookup PN (k2.blk_iff PN hW) hk Try.underlying129 (z := .int .i64 0) (fun w => by kernel_rfl) false
  rw [k3.get, if_neg (by decide)] at h
  have e1 : ((Kl.look Ct.p L k).map Ct.v).getD (.int .i64 0) = .int .i64 (cnt L k) := by unfold cnt look; cases Kl.look Ct.p L k <;> rfl
  rw [e1] at h
  exact h
/-- behind a one is set -/
def setC (L : List Ct) (x : Ct) : List Ct := (L.filter fun y => decide (y.p ≠ x.p)) ++ [x]
theorem set_keys {L : List Ct} (h : (L.map Ct.p).Nodup) (x : Ct) : ((setC L x).map Ct.p).Nodup := by
  unfold setC
  rw [List.map_append, List.nodup_append]
  refine ⟨Kl.nodup_filter h _, by simp, fun a ha b hb => ?_⟩
  simp at hb
  subst hb
  obtain ⟨y, hy, rfl⟩ := List.mem_map.1 ha
  simpa using (List.mem_filter.1 hy).2
theorem look_set {L : List Ct} (h : (L.map Ct.p).Nodup) (x : Ct) (k : PK) : Kl.look Ct.p (setC L x) k = if k = x.p then some x else Kl.look Ct.p L k := by
  have hn := set_keys h x
  split
  · rename_i e; exact (Kl.look_some hn).2 ⟨by unfold setC; simp, e.symm⟩
  · rename_i e
    cases hl : Kl.look Ct.p L k with
    | none =>
      refine Kl.look_no fun y hy => ?_
      unfold setC at hy
      rcases List.mem_append.1 hy with hy | hy
      · exact Kl.look_none hl (List.mem_filter.1 hy).1
      · simp at hy; subst hy; exact Ne.symm e
    | some y =>
      obtain ⟨h1, h2⟩ := Kl.look_mem hl
      refine (Kl.look_some hn).2 ⟨?_, h2⟩
      unfold setC
      exact List.mem_append.2 (.inl (List.mem_filter.2 ⟨h1, by simp; rw [h2]; exact e⟩))
theorem CntAt.update {w : World} {bm : Nat} {L : List Ct} (H : CntAt w bm L) {k : PK} (hk : PN.ok k) (n : Int) :
    ∃ O, (Instr.mapUpdate 129 (.map (some bm)) (.agg #[.int .u32 (k.1 : Int), .int .i64 k.2]) (.int .i64 n)).run Try.prog w = .ok () (setBlock w bm O) ∧ CntAt (setBlock w bm O) bm (setC L ⟨k, n⟩) := by
  obtain ⟨clk, es, k2, k3⟩ := H.out
  have hu := MR.run_update PN k2 hk Try.underlying129 (Ct.v ⟨k, n⟩)
  exact ⟨_, hu.1, ⟨_, _, hu.2, k3.put (x := ⟨k, n⟩) (set_keys k3.nd _) (look_set k3.nd ⟨k, n⟩) hu.2.nodup hu.2.bnodup⟩⟩
theorem CntAt.len {w : World} {bm : Nat} {L : List Ct} (H : CntAt w bm L) (W : World) (hW : W.heap[bm]? = w.heap[bm]?) (ty : TypeId) : (Builtin.len_ #[129] ty #[.map (some bm)]).run Try.prog W = .ok (.int .i64 L.length) W := by
  obtain ⟨clk, es, k2, k3⟩ := H.out
  have := MR.run_len PN (k2.blk_iff PN hW) Try.underlying129 ty
  rw [k3.len] at this
  exact this
theorem CntAt.made {w : World} {b : Nat} (h : w.heap[b]? = some (.map #[] 0)) : CntAt w b [] := ⟨0, [], MR.mapAt_made PN h, Kl.Lay.nil⟩
/-- the counts of a list, the last one of each prefix -/
def ixC (L : List Ct) : List Ct := L.foldl setC []
theorem ixC_succ {L : List Ct} {i : Nat} (hi : i < L.length) : ixC (L.take (i + 1)) = setC (ixC (L.take i)) (L.getD i default) := by
  unfold ixC
  rw [List.take_succ_eq_append_getElem hi, List.foldl_append]
  simp [List.getD_eq_getElem?_getD, hi]
theorem snoc_ind {P : List Ct → Prop} (h0 : P []) (h1 : ∀ L x, P L → P (L ++ [x])) (L : List Ct) : P L := by
  have : ∀ n, ∀ L : List Ct, L.length = n → P L := by
    intro n
    induction n with
    | zero => intro L hL; rw [List.eq_nil_of_length_eq_zero hL]; exact h0
    | succ n ih =>
      intro L hL
      have hne : L ≠ [] := by intro h; rw [h] at hL; cases hL
      rw [← List.dropLast_concat_getLast hne]
      exact h1 _ _ (ih _ (by simp [hL]))
  exact this _ L rfl
theorem ixC_snoc (L : List Ct) (x : Ct) : ixC (L ++ [x]) = setC (ixC L) x := by unfold ixC; rw [List.foldl_append]; rfl
theorem setC_mem {L : List Ct} {x : Ct} {k : PK} : k ∈ (setC L x).map Ct.p ↔ k = x.p ∨ k ∈ L.map Ct.p := by
  unfold setC
  simp only [List.mem_map, List.mem_append, List.mem_filter, List.mem_singleton]
  constructor
  · rintro ⟨y, ⟨hy, -⟩ | rfl, rfl⟩
    · exact .inr ⟨y, hy, rfl⟩
    · exact .inl rfl
  · rintro (rfl | ⟨y, hy, rfl⟩)
    · exact ⟨x, .inr rfl, rfl⟩
    · by_cases h : y.p = x.p
      · exact ⟨x, .inr rfl, h.symm⟩
      · exact ⟨y, .inl ⟨hy, by simpa using h⟩, rfl⟩
theorem ixC_mem : ∀ (L : List Ct) (k : PK), k ∈ (ixC L).map Ct.p ↔ k ∈ L.map Ct.p := by
  refine snoc_ind (fun k => by simp [ixC]) fun L x ih k => ?_
  rw [ixC_snoc, setC_mem, ih k]
  simp only [List.map_append, List.mem_append, List.map_cons, List.map_nil, List.mem_singleton]
  exact or_comm
theorem ixC_nd : ∀ L : List Ct, ((ixC L).map Ct.p).Nodup := by
  refine snoc_ind (by simp [ixC]) fun L x ih => ?_
  rw [ixC_snoc]
  exact set_keys ih x
theorem setC_len {L : List Ct} (hn : (L.map Ct.p).Nodup) (x : Ct) : (setC L x).length = if x.p ∈ L.map Ct.p then L.length else L.length + 1 := by
  unfold setC
  rw [List.length_append]
  split
  · rename_i h
    obtain ⟨y, hy, he⟩ := List.mem_map.1 h
    have h1 : (L.filter fun z => decide (z.p ≠ x.p)) = L.filter fun z => decide (z ≠ y) := by
      refine List.filter_congr fun z hz => ?_
      have : z.p = x.p ↔ z = y := ⟨fun e => Kl.inj_on hn hz hy (e.trans he.symm), fun e => e ▸ he⟩
      simp [this]
    have h2 := (MR.nodup_of_map hn).erase_eq_filter y
    have h3 : (L.filter fun z => decide (z ≠ y)) = L.erase y := by
      rw [h2]
      refine List.filter_congr fun z _ => ?_
      by_cases e : z = y <;> simp [e]
    rw [h1, h3, List.length_erase_of_mem hy]
    have : 0 < L.length := List.length_pos_of_mem hy
    simp
    omega
  · rename_i h
    rw [List.filter_eq_self.2 fun z hz => by
      have : z.p ≠ x.p := fun e => h (e ▸ List.mem_map.2 ⟨z, hz, rfl⟩)
      simpa using this]
    rfl
theorem ixC_len : ∀ L : List Ct, (ixC L).length ≤ L.length ∧ ((ixC L).length = L.length ↔ (L.map Ct.p).Nodup) := by
  refine snoc_ind (by simp [ixC]) fun L x ih => ?_
  rw [ixC_snoc, setC_len (ixC_nd L), List.length_append, List.map_append, List.nodup_append]
  simp only [ixC_mem, List.length_cons, List.length_nil, List.map_cons, List.map_nil]
  obtain ⟨h1, h2⟩ := ih
  split
  · rename_i h
    refine ⟨by omega, ⟨fun e => ?_, fun e => ?_⟩⟩
    · omega
    · exact absurd rfl (e.2.2 x.p h x.p (by simp))
  · rename_i h
    refine ⟨by omega, ⟨fun e => ⟨h2.1 (by omega), by simp, fun a ha b hb e => ?_⟩, fun e => ?_⟩⟩
    · simp at hb; subst hb; exact h (e ▸ ha)
    · have := h2.2 e.1; omega
theorem ixC_id : ∀ L : List Ct, (L.map Ct.p).Nodup → ixC L = L := by
  refine snoc_ind (fun _ => rfl) fun L x ih h => ?_
  rw [List.map_append, List.nodup_append] at h
  rw [ixC_snoc, ih h.1]
  unfold setC
  rw [List.filter_eq_self.2 fun z hz => by
    have : z.p ≠ x.p := fun e => h.2.2 z.p (List.mem_map.2 ⟨z, hz, rfl⟩) x.p (by simp) e
    simpa using this]
end Go.Proofs.Ytfmehahjjgalfaa.Me
