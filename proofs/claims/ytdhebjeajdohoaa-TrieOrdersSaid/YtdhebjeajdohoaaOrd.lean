/-
  Proved: 'bypathlaw13.TrieOrders' returns true for every input and leaves its arguments as they were. No conditions.
-/
import Derived.Test.YtdhebjeajdohoaaIk
import Derived.Test.YtdhebjeajdohoaaOq
namespace Go.Proofs.Ytdhebjeajdohoaa
open Go.ChangeShapes Go.WideShapes Go.ChangeAt Go.RowKit Go.Deep

theorem rq_cells3 {w : World} {b o : Nat} {x : Nat × Int} (h : RQ.At w b o x) : w.cell? ⟨b, o, none⟩ = some (.int .u32 x.1) ∧ w.cell? ⟨b, o + 1, none⟩ = some (.int .i64 x.2) := ⟨h 0 (by decide), h 1 (by decide)⟩
theorem getD_mem3 {α : Type} [Inhabited α] {M : List α} {i : Nat} (h : i < M.length) : M.getD i default ∈ M := by
  rw [List.getD_eq_getElem?_getD, List.getElem?_eq_getElem h]; exact List.getElem_mem _
theorem RefOk.same {α : Type} {E : List ((Nat × Nat) × α)} {M M' : Nat → Nat → Option α} (h : RefOk E M) (k : RefOk E M') : M = M' := by
  funext x d
  apply Option.ext
  intro v
  rw [h.is, k.is]
/-- two tries -/
structure Two (w : World) (b c : Nat) (w' : World) (N K : Nat → Nat → Option Nat) (E F : List ((Nat × Nat) × Int)) : Prop where
  t : TrieEI w' b N E
  u : TrieEI w' c K F
  apart : ∀ k, foot b N k → ¬ foot c K k
  below : Below w.heap.size w w'
  ft : ∀ k, foot b N k → w.heap.size ≤ k
  fu : ∀ k, foot c K k → w.heap.size ≤ k
theorem Two.left {w w1 w2 : World} {b c : Nat} {N N' K : Nat → Nat → Option Nat} {E E' F : List ((Nat × Nat) × Int)} (h : Two w b c w1 N K E F) (hm : Moved w1 w2 (foot b N) (foot b N')) (ht : TrieEI w2 b N' E') : Two w b c w2 N' K E' F :=
  ⟨ht, h.u.keep fun k hk => hm.same k (h.u.lt hk) (fun hf => h.apart k hf hk), fun k hk hf => by
    rcases hm.foot k hk with h1 | h1
    · exact h.apart k h1 hf
    · have := h.u.lt hf; omega, h.below.trans (hm.below h.below.size h.ft), fun k hk => by
    rcases hm.foot k hk with h1 | h1
    · exact h.ft k h1
    · have := h.below.size; omega, h.fu⟩
theorem Two.right {w w1 w2 : World} {b c : Nat} {N K K' : Nat → Nat → Option Nat} {E F F' : List ((Nat × Nat) × Int)} (h : Two w b c w1 N K E F) (hm : Moved w1 w2 (foot c K) (foot c K')) (ht : TrieEI w2 c K' F') : Two w b c w2 N K' E F' :=
  ⟨h.t.keep fun k hk => hm.same k (h.t.lt hk) (fun hf => h.apart k hk hf), ht, fun k hk hf => by
    rcases hm.foot k hf with h1 | h1
    · exact h.apart k hk h1
    · have := h.t.lt hk; omega, h.below.trans (hm.below h.below.size h.fu), h.ft, fun k hk => by
    rcases hm.foot k hk with h1 | h1
    · exact h.fu k h1
    · have := h.below.size; omega⟩
theorem Two.on {w w1 w2 : World} {b c : Nat} {N K : Nat → Nat → Option Nat} {E F : List ((Nat × Nat) × Int)} (h : Two w b c w1 N K E F) (hb : Below w1.heap.size w1 w2) : Two w b c w2 N K E F := h.left (Moved.of_below hb _) (h.t.below hb)
/-- what so many sets, of those that f names, make -/
def Made (L : List (Nat × Int)) (f : Nat → Nat) (i : Nat) (E : List ((Nat × Nat) × Int)) : Prop :=
  (∀ e ∈ E, e.2 = (e.1.2 : Int)) ∧ ∀ k, k ∈ E.map (·.1) ↔ ∃ j, j < i ∧ okP (L.getD (f j) default).1 (L.getD (f j) default).2 = true ∧ k = ((L.getD (f j) default).1, (L.getD (f j) default).2.toNat)
theorem Made.nil (L : List (Nat × Int)) (f : Nat → Nat) : Made L f 0 [] := ⟨by simp, by simp⟩
theorem Made.step {L : List (Nat × Int)} {f : Nat → Nat} {i : Nat} {E : List ((Nat × Nat) × Int)} (hs : (E.map (·.1)).Pairwise ltK) (h : Made L f i E) : Made L f (i + 1) (setL E (L.getD (f i) default).1 (L.getD (f i) default).2 (L.getD (f i) default).2) := by
  obtain ⟨h1, h2⟩ := h
  generalize hx : L.getD (f i) default = x
  have hlast : ∀ {P : Nat → Prop}, (∃ j, j < i + 1 ∧ P j) ↔ (∃ j, j < i ∧ P j) ∨ P i := fun {P} => ⟨fun ⟨j, hj, hp⟩ => by
    rcases Nat.lt_succ_iff_lt_or_eq.1 hj with h | rfl
    · exact .inl ⟨j, h, hp⟩
    · exact .inr hp, fun h => h.elim (fun ⟨j, hj, hp⟩ => ⟨j, by omega, hp⟩) (fun hp => ⟨i, by omega, hp⟩)⟩
  unfold setL
  cases hok : okP x.1 x.2 with
  | false =>
    refine ⟨h1, fun k => ?_⟩
    rw [hlast (P := fun j => okP (L.getD (f j) default).1 (L.getD (f j) default).2 = true ∧ k = ((L.getD (f j) default).1, (L.getD (f j) default).2.toNat)), hx, hok]
    simp only [Bool.false_eq_true, if_false, false_and, or_false]
    exact h2 k
  | true =>
    obtain ⟨h3, h4, -⟩ := okP_iff.1 hok
    refine ⟨fun e he => ?_, fun k => ?_⟩
    · simp only [if_true] at he
      have he' := (ins_mem (x.1, x.2.toNat) x.2 E hs e.1 e.2).1 he
      split at he'
      · rename_i hk
        rw [he', hk]; dsimp only; omega
      · exact h1 e he'
    · rw [hlast (P := fun j => okP (L.getD (f j) default).1 (L.getD (f j) default).2 = true ∧ k = ((L.getD (f j) default).1, (L.getD (f j) default).2.toNat)), hx, hok]
      simp only [if_true, true_and]
      rw [ins_keys, h2 k]
      exact or_comm
theorem keys_eq {E F : List ((Nat × Nat) × Int)} (hE : ∀ e ∈ E, e.2 = (e.1.2 : Int)) (hF : ∀ e ∈ F, e.2 = (e.1.2 : Int)) (h : E.map (·.1) = F.map (·.1)) : E = F := by
  have : ∀ {G : List ((Nat × Nat) × Int)}, (∀ e ∈ G, e.2 = (e.1.2 : Int)) → G = (G.map (·.1)).map (fun k => (k, (k.2 : Int))) := fun {G} hG => by
    rw [List.map_map]
    conv => lhs; rw [← List.map_id G]
    refine List.map_congr_left fun e he => ?_
    exact Prod.ext rfl (hG e he)
  rw [this hE, this hF, h]
theorem Made.same {L : List (Nat × Int)} {f g : Nat → Nat} {n : Nat} {E F : List ((Nat × Nat) × Int)} (hE : Made L f n E) (hF : Made L g n F) (sE : (E.map (·.1)).Pairwise ltK) (sF : (F.map (·.1)).Pairwise ltK) (h1 : ∀ j, j < n → ∃ q, q < n ∧ g q = f j) (h2 : ∀ j, j < n → ∃ q, q < n ∧ f q = g j) : E = F := by
  refine keys_eq hE.1 hF.1 (sorted_ext sE sF fun k => ?_)
  rw [hE.2, hF.2]
  constructor
  · rintro ⟨j, hj, hp⟩
    obtain ⟨q, hq, e⟩ := h1 j hj
    exact ⟨q, hq, by rw [e]; exact hp⟩
  · rintro ⟨j, hj, hp⟩
    obtain ⟨q, hq, e⟩ := h2 j hj
    exact ⟨q, hq, by rw [e]; exact hp⟩
/-- which one is set behind i others -/
def turn (n T i : Nat) : Nat := n - 1 - (i + T % n) % n
theorem turn_lt {n : Nat} (T i : Nat) (hn : 0 < n) : turn n T i < n := by unfold turn; omega
theorem turn_k {n T i : Nat} (hn : 0 < n) (hn100 : n ≤ 100) (hi : i < n) : (wrap64 ((i : Int) + (T : Int) % (n : Int))).tmod (n : Int) = (((i + T % n) % n : Nat) : Int) := by
  have h6 : T % n < n := Nat.mod_lt _ hn
  have h5 : ((i : Int) + (T : Int) % (n : Int)) = ((i + T % n : Nat) : Int) := by simp
  have h8 : i + T % n < 200 := by omega
  rw [h5]
  generalize i + T % n = s at *
  have h7 : wrap64 (s : Int) = (s : Int) := by unfold wrap64; omega
  rw [h7]
  exact (Int.ofNat_tmod s n).symm
theorem turn_w {n T i : Nat} (hn : 0 < n) (hn100 : n ≤ 100) : IntKind.i64.wrap ((n : Int) - 1) = (n : Int) - 1 ∧ IntKind.i64.wrap ((n : Int) - 1 - (((i + T % n) % n : Nat) : Int)) = ((turn n T i : Nat) : Int) ∧ (((turn n T i : Nat) : Int) < (n : Int)) = True := by
  have hkl : (i + T % n) % n < n := Nat.mod_lt _ hn
  unfold turn
  generalize (i + T % n) % n = kk at *
  refine ⟨IntWalk.i64_in _ (by omega), ?_, by simp only [eq_iff_iff, iff_true]; omega⟩
  rw [IntWalk.i64_in _ (by omega)]; omega
theorem turn_onto {n : Nat} (T q : Nat) (hn : 0 < n) (hq : q < n) : ∃ j, j < n ∧ turn n T j = q := by
  have hT := Nat.mod_lt T hn
  generalize hs : T % n = s at *
  by_cases h : s ≤ n - 1 - q
  · refine ⟨n - 1 - q - s, by omega, ?_⟩
    unfold turn
    rw [hs, Nat.mod_eq_of_lt (by omega)]; omega
  · refine ⟨n - 1 - q + n - s, by omega, ?_⟩
    unfold turn
    rw [hs, show n - 1 - q + n - s + s = (n - 1 - q) + n by omega, Nat.add_mod_right, Nat.mod_eq_of_lt (by omega)]; omega
theorem longI_both (M : Nat → Nat → Option Int) (a : Nat) (ha : a < 4294967296) : ∃ (p q x : Int) (f : Bool), ∀ {w : World} {b n : Nat} {N : Nat → Nat → Option Nat}, TrieI w b N n M →
    Calls Try.prog 18 #[.pointer (some ⟨b, 0, none⟩), .int .u32 a] w fun e w' => e = .returned (.tuple #[.agg #[.int .u32 p, .int .i64 q], .int .i64 x, .bool f]) ∧ Below w.heap.size w w' := by
  cases h : lng M a 33 with
  | none => exact ⟨_, _, _, _, fun ht => by have := longI_any ht a ha; rw [h] at this; exact this⟩
  | some j => exact ⟨_, _, _, _, fun ht => by have := longI_any ht a ha; rw [h] at this; exact this⟩
set_option maxRecDepth 100000 in
set_option maxHeartbeats 1000000 in
theorem orders_law (oa : Option Addr) (n ca : Nat) (L : List (Nat × Int)) (tn : Int) (a : Nat) (w : World) (hl : SlOk RQ (fun _ x => okQ x) w ⟨oa, n, ca, L⟩) (ht : I3 tn) (ha : a < 4294967296) : Calls Try.prog 4 #[.slice oa n ca, .int .i64 tn, .int .u32 a] w fun e w' => e = .returned (.bool true) ∧ Below w.heap.size w w' := by
  have HA := Lib.hid (And.intro hl (And.intro ht ha))
  clear hl ht ha
  have hcase : ((100 : Int) < n) = True ∨ (((100 : Int) < n) = False ∧ ((n : Int) = 0) = True) ∨ (((100 : Int) < n) = False ∧ ((n : Int) = 0) = False ∧ (tn < 0) = True) ∨ (((100 : Int) < n) = False ∧ ((n : Int) = 0) = False ∧ (tn < 0) = False) := by
    by_cases h1 : (100 : Int) < n <;> by_cases h2 : (n : Int) = 0 <;> by_cases h3 : tn < 0 <;> simp [h1, h2, h3]
    all_goals omega
  have hbeq : ((n : Int) == 0) = decide ((n : Int) = 0) := by rw [Bool.eq_iff_iff]; simp
  rcases hcase with h1 | ⟨h1, h2⟩ | ⟨h1, h2, h3⟩ | ⟨h1, h2, h3⟩
  iterate 3
    · (try simp only [h2, decide_true, decide_false] at hbeq)
      go_enter Try.func4, Try.ntmps4
      go_wp2_with (go_at_call 9; refine (lives_any _).mono ?_; rintro e w3 ⟨rfl, hb3⟩)
      go_ret
      exact ⟨rfl, hb3⟩
  simp only [h2, decide_false] at hbeq
  obtain ⟨T, rfl⟩ := Int.eq_ofNat_of_zero_le (show 0 ≤ tn by simpa using h3)
  have hn0 : 0 < n := by simp at h2; omega
  have hn100 : n ≤ 100 := by simp at h1; omega
  have hTm : (T : Int) ≤ 9223372036854775807 := HA.out.2.1.2
  go_enter Try.func4, Try.ntmps4
  go_wp2_with fail
  refine (newEI _).mono ?_
  rintro e w1 ⟨rfl, N0, ht1, hf1, hb1⟩
  generalize w.heap.size + 1 = b at *
  go_wp2_with fail
  refine (newEI _).mono ?_
  rintro e w2 ⟨rfl, K0, ht2, hf2, hb2⟩
  have hTw : Two w b (w1.heap.size + 1) w2 N0 K0 [] [] := ⟨ht1.below hb2, ht2, fun k hk hf => by have h4 := ht1.lt hk; have h5 := hf2 k hf; omega, hb1.trans (hb2.mono hb1.size), hf1, fun k hk => Nat.le_trans hb1.size (hf2 k hk)⟩
  generalize w1.heap.size + 1 = c at *
  clear ht1 hf1 hb1 ht2 hf2 hb2
  go_wp2_with fail
  refine (lives_any _).mono ?_
  rintro e w3 ⟨rfl, hb3⟩
  have H3 := Lib.hid (hTw.on hb3)
  clear hTw hb3
  go_wp2_with fail
  go_loopw [9] (fun iv wr => ∃ (i : Nat) (N K : Nat → Nat → Option Nat) (E F : List ((Nat × Nat) × Int)), i ≤ n ∧ iv = .int .i64 i ∧ Two w b c wr N K E F ∧ Made L id i E ∧ Made L (turn n T) i F ∧ E.length ≤ i ∧ F.length ≤ i) (fun iv _ => n - (intOf iv).toNat)
  case atStart => exact ⟨0, N0, K0, [], [], Nat.zero_le _, rfl, H3.out, Made.nil _ _, Made.nil _ _, Nat.le_refl _, Nat.le_refl _⟩
  case round =>
    obtain ⟨i, N, K, E, F, hi, rfl, hg, hE, hF, hEl, hFl⟩ := hrel
    by_cases hlt : i < n
    · have hil : ((i : Int) < n) = True := by simp; omega
      obtain ⟨bb, oo, rfl, hbb, hat⟩ := HA.out.1.sl.at hlt
      obtain ⟨b2, o2, e2, hb2, hat2⟩ := HA.out.1.sl.at (turn_lt T i hn0)
      injection e2 with e2
      injection e2 with e21 e22
      subst e21
      subst e22
      have hok := HA.out.1.all (L.getD i default) (getD_mem3 (by rw [← HA.out.1.sl.len]; exact hlt))
      have hok2 := HA.out.1.all (L.getD (turn n T i) default) (getD_mem3 (by rw [← HA.out.1.sl.len]; exact turn_lt T i hn0))
      have hE1 := hE.step hg.t.sorted
      have hF1 := hF.step hg.u.sorted
      have hset := setEI (hg.t.below (Below.drew (Below.refl _ wr))) (by omega) (L.getD i default).1 (L.getD i default).2 hok.1 (L.getD i default).2
      have hlenE := setL_length E hg.t.sorted (L.getD i default).1 (L.getD i default).2 (L.getD i default).2
      have hlenF := setL_length F hg.u.sorted (L.getD (turn n T i) default).1 (L.getD (turn n T i) default).2 (L.getD (turn n T i) default).2
      dsimp only [id] at hE1
      obtain ⟨c0, c1⟩ := rq_cells3 (hat.keep (hg.below.block bb hbb))
      simp only [RQ] at c0 c1
      generalize L.getD i default = x at *
      generalize L.getD (turn n T i) default = y at *
      have htl := turn_lt T i hn0
      have hk1 := turn_k (T := T) hn0 hn100 hlt
      obtain ⟨hw1, hw2, hti⟩ := turn_w (T := T) (i := i) hn0 hn100
      generalize turn n T i = tt at *
      generalize (i + T % n) % n = kk at *
      unfold pfx at hset
      generalize (if okP x.1 x.2 = true then (0 : Int) else 20) = rv at hset
      have HS := Lib.hid (And.intro hset (And.intro hE1 (And.intro hF1 (And.intro hlenE (And.intro hlenF (And.intro hEl hFl))))))
      have HG := Lib.hid (And.intro hg (And.intro hok (And.intro hok2 hat2)))
      clear hset hE1 hF1 hlenE hlenF hg hok hok2 hat2 hat hE hF hEl hFl
      go_wp2_with fail
      refine wp_region_quiet_tail (fun w' => w' = wr.drew) 10 (by kernel_rfl) (by kernel_rfl) rfl ?_
      simp only [List.take_succ_cons, List.take_zero, List.drop_succ_cons, List.drop_zero]
      iterate 10 ((with_reducible refine wpQuiet_step (fun K hK => ?_)); go_simp; (with_reducible refine hK _ ?_); clear hK K)
      with_reducible refine wpQuiet_nil ?_
      rintro _ rfl
      go_wp2_with fail
      refine (HS.out.1).mono ?_
      rintro e w4 ⟨rfl, N4, ht4, hm4⟩
      have hg4 := (HG.out.1.on (Below.drew (Below.refl _ wr))).left hm4 ht4
      have hbb4 := hg4.below.block bb hbb
      have hb4l : bb < w4.heap.size := Nat.lt_of_lt_of_le hbb hg4.below.size
      obtain ⟨e0, e1⟩ := rq_cells3 (HG.out.2.2.2.keep hbb4)
      simp only [RQ] at e0 e1
      have hset2 := setEI (hg4.u.below (Below.drew (Below.refl _ w4))) (by have := HS.out.2.2.2.2.2.2; omega) y.1 y.2 HG.out.2.2.1.1 y.2
      unfold pfx at hset2
      generalize (if okP y.1 y.2 = true then (0 : Int) else 20) = rv2 at hset2
      have H4 := Lib.hid (And.intro hset2 hg4)
      clear hset2 hg4 ht4 hm4 hbb4 c0 c1
      go_wp2_with fail
      refine wp_region_quiet_tail (fun w' => w' = w4.drew) 18 (by kernel_rfl) (by kernel_rfl) rfl ?_
      simp only [List.take_succ_cons, List.take_zero, List.drop_succ_cons, List.drop_zero]
      iterate 18 ((with_reducible refine wpQuiet_step (fun K hK => ?_)); go_simp; (with_reducible refine hK _ ?_); clear hK K)
      with_reducible refine wpQuiet_nil ?_
      rintro _ rfl
      go_wp2_with fail
      refine (H4.out.1).mono ?_
      rintro e w5 ⟨rfl, K5, ht5, hm5⟩
      have H5 := Lib.hid ((H4.out.2.on (Below.drew (Below.refl _ w4))).right hm5 ht5)
      clear ht5 hm5 e0 e1
      go_wp2_with fail
      go_roundw
      case rel => exact ⟨i + 1, N4, K5, _, _, by omega, by go_num, H5.out, HS.out.2.1, HS.out.2.2.1, by have h1 := HS.out.2.2.2.1; have h2 := HS.out.2.2.2.2.2.1; omega, by have h1 := HS.out.2.2.2.2.1; have h2 := HS.out.2.2.2.2.2.2; omega⟩
      case measure => simp [intOf]; omega
    · obtain rfl : i = n := by omega
      have hEF : E = F := hE.same hF hg.t.sorted hg.u.sorted (fun j hj => turn_onto T j hn0 hj) (fun j hj => ⟨turn i T j, turn_lt T j hn0, rfl⟩)
      subst hEF
      have hil : ((i : Int) < i) = False := by simp
      obtain ⟨Mt, hMt1, hMt2⟩ := hg.t
      obtain ⟨Mu, hMu1, hMu2⟩ := hg.u
      obtain rfl := hMt2.same hMu2
      obtain ⟨p, q, x, f, HL⟩ := longI_both Mt a HA.out.2.2
      have hid := Lib.hid (And.intro hg hEl)
      have HM := Lib.hid (And.intro hMt1 hMu1)
      have H1 := Lib.hid (HL hMt1)
      clear hg hE hF hMt1 hMu1 hMt2 hMu2 hEl hFl
      go_wp2_with fail
      refine (H1.out).mono ?_
      rintro e w4 ⟨rfl, hb4⟩
      have hbA := hb4.trans ((Below.refl _ w4).alloc hb4.size (.cells #[.int .u32 p, .int .i64 q] 32))
      have HbA := Lib.hid hbA
      have H2 := Lib.hid (HL (HM.out.2.below hbA))
      clear H1 HL HM hb4 hbA
      go_wp2_with fail
      refine (H2.out).mono ?_
      rintro e w5 ⟨rfl, hb5⟩
      have hcA : w5.heap[w4.heap.size]? = some (.cells #[.int .u32 p, .int .i64 q] 32) := (hb5.block _ (by simp)).trans (hnew _ _)
      have hlA := lt_of_blk hcA
      have hbB := (HbA.out.trans (hb5.mono HbA.out.size)).trans ((Below.refl _ w5).alloc (Nat.le_trans HbA.out.size hb5.size) (.cells #[.int .u32 p, .int .i64 q] 32))
      have hgB := hid.out.1.on hbB
      have hcA2 : (w5.alloc (.cells #[.int .u32 p, .int .i64 q] 32)).heap[w4.heap.size]? = some (.cells #[.int .u32 p, .int .i64 q] 32) := (((Below.refl _ w5).alloc (Nat.le_refl _) _).block _ hlA).trans hcA
      have HC := Lib.hid (And.intro hcA2 (hnew w5 (.cells #[.int .u32 p, .int .i64 q] 32)))
      have H3 := Lib.hid (prefixesEI hgB.t (by have := hid.out.2; omega))
      have HB := Lib.hid hgB
      clear H2 HbA hb5 hcA hlA hbB hgB hcA2
      go_wp2_with fail
      refine (H3.out).mono ?_
      rintro e w6 ⟨v1, rfl, hown1, hb6⟩
      have H4 := Lib.hid (prefixesEI (HB.out.on hb6).u (by have := hid.out.2; omega))
      have HO1 := Lib.hid (And.intro hown1 hb6)
      clear H3 hown1 hb6
      go_wp2_with fail
      refine (H4.out).mono ?_
      rintro e w7 ⟨v2, rfl, hown2, hb7⟩
      obtain ⟨a9, c9, rfl, -, -, hs9, -⟩ := (HO1.out.1.below hb7).sl
      obtain ⟨a10, c10, rfl, -, -, hs10, -⟩ := hown2.sl
      have hsame := same_any _ _ _ _ _ _ _ _ _ hs9 hs10
      rw [decide_eq_true rfl] at hsame
      simp only [List.length_map] at hsame ⊢
      have hb67 := HO1.out.2.trans (hb7.mono HO1.out.2.size)
      have hg7 := HB.out.on hb67
      have hlA := lt_of_blk HC.out.1
      have hlB := lt_of_blk HC.out.2
      have HS := Lib.hid hsame
      have HD := Lib.hid (And.intro hg7 (And.intro ((hb67.block _ hlA).trans HC.out.1) ((hb67.block _ hlB).trans HC.out.2)))
      clear hs9 hs10 hown2 hb7 hb67 hg7 hlA hlB hsame H4
      go_wp2_with fail
      refine (HS.out).mono ?_
      rintro e w8 ⟨rfl, hb8⟩
      have hg8 := HD.out.1.on hb8
      have hA8 := (hb8.block _ (lt_of_blk HD.out.2.1)).trans HD.out.2.1
      have hB8 := (hb8.block _ (lt_of_blk HD.out.2.2)).trans HD.out.2.2
      have a0 : w8.cell? ⟨w4.heap.size, 0, none⟩ = some (.int .u32 p) := cell_of hA8 rfl
      have a1 : w8.cell? ⟨w4.heap.size, 1, none⟩ = some (.int .i64 q) := cell_of hA8 rfl
      have b0 : w8.cell? ⟨w5.heap.size, 0, none⟩ = some (.int .u32 p) := cell_of hB8 rfl
      have b1 : w8.cell? ⟨w5.heap.size, 1, none⟩ = some (.int .i64 q) := cell_of hB8 rfl
      obtain ⟨Mt8, hMt8, -⟩ := hg8.t
      obtain ⟨Mu8, hMu8, -⟩ := hg8.u
      have HL1 := Lib.hid (lenI_any hMt8)
      have HL2 := Lib.hid (lenI_any hMu8)
      have H8 := Lib.hid hg8.below
      clear hg8 hA8 hB8 hMt8 hMu8 HD HS hb8
      go_wp2_with fail
      refine (HL1.out).mono ?_
      rintro e _ ⟨rfl, rfl⟩
      go_wp2_with fail
      refine (HL2.out).mono ?_
      rintro e _ ⟨rfl, rfl⟩
      go_wp2_with fail
      go_ret
      exact ⟨rfl, H8.out⟩
theorem orders_int (oa : Option Addr) (n ca : Nat) (L : List (Nat × Int)) (tn a : Int) (w : World) (hl : SlOk RQ (fun _ x => okQ x) w ⟨oa, n, ca, L⟩) (h1 : (Lit.int .i64 tn).wf = true) (h2 : (Lit.int .u32 a).wf = true) : Calls Try.prog 4 #[.slice oa n ca, .int .i64 tn, .int .u32 a] w fun e w' => e = .returned (.bool true) ∧ Below w.heap.size w w' := by
  obtain ⟨k, rfl, hk⟩ := u32_nat h2
  exact orders_law oa n ca L tn k w hl (wf64 h1) hk
set_option maxRecDepth 100000 in
theorem orders_lifted (os : Os) (started : os.Started) (H : Type) (enc : TypeId × Value → H) :
    ReturnsInHanded {} Try.checked os 4 .any (Rows.trieOrdersSpec.pre6 enc Try.prog Try.f4 Rows.trieOrdersRow.domain false) (Rows.trieOrdersSpec.post enc Try.prog Try.f4 false true false false) := by
  refine returnsInHanded_of_change (C := Try.checked) own started (by kernel_rfl) Try.func4
    (ChangeSpec.witness6 (enc := enc) (C := Try.checked) false ⟨#[], #[.slice none 0 0, .int .i64 0, .int .u32 0], []⟩ 8 (by kernel_rfl) (by kernel_rfl) (by kernel_rfl) (by kernel_rfl)) ?_
  intro W base args ds gs before hval0 hW hcnd _
  have hval : ∀ (j : Nat) t v, Try.f4.params[j]? = some t → args[j]? = some v → Value.okWide Try.prog W .any base t v := hval0
  have hW' := hW
  obtain ⟨p, q, hA0, hV, rfl, hfz, hnd⟩ := hW
  have hA : DataW.TrodAll enc Try.prog W 0 (fun _ => true) true Try.f4.params.toList args.toList ds p := hA0
  rw [Try.params4] at hA hval
  obtain ⟨v0, vs0, d0, ds0, p0, q0, hargs, rfl, rfl, h0, r0⟩ := trodAll_cons hA
  obtain ⟨v1, vs1, d1, ds1, p1, q1, rfl, rfl, rfl, h1, r1⟩ := trodAll_cons r0
  obtain ⟨v2, vs2, d2, ds2, p2, q2, rfl, rfl, rfl, h2, r2⟩ := trodAll_cons r1
  obtain ⟨rfl, rfl, rfl⟩ := trodAll_nil r2
  obtain rfl : args = #[v0, v1, v2] := by cases args; simp_all
  obtain ⟨rfl, rfl⟩ := trodVars_none hV
  have lt0 : ∀ x ∈ p0, x.block < W.heap.size := by obtain ⟨m, hm⟩ := h0; exact DataW.trod_lt m _ _ _ hm
  obtain ⟨x0, y0, z0, rfl⟩ := okWide_slice Try.underlying41 (hval 0 41 v0 rfl rfl)
  obtain ⟨s0, e0, ok0⟩ := (reads41).arg h0
  simp only [Value.cells, List.cons.injEq, Value.slice.injEq, and_true] at e0
  obtain ⟨rfl, rfl, rfl⟩ := e0
  obtain ⟨a1, rfl, rfl, rfl, w1⟩ := open_int Try.underlying3 (hval 1 3 v1 rfl rfl) h1
  obtain ⟨a2, rfl, rfl, rfl, w2⟩ := open_int Try.underlying23 (hval 2 23 v2 rfl rfl) h2
  clear hA0 hval0
  refine (orders_int _ _ _ _ _ _ _ ok0 w1 w2).mono fun e W' ⟨he, bel⟩ => ?_
  subst he
  exact ⟨_, rfl, _, _, _, [], _, [], hW', trodAll_mk1 (shut_bool Try.underlying4 _), (trodAll_cons_mk (Below.trod laidOut (by kernel_rfl) (of_decide_eq_true (by kernel_rfl)) h0 bel lt0) (trodAll_cons_mk (shut_int Try.underlying3 w1) (trodAll_cons_mk (shut_int Try.underlying23 w2) trodAll_mk0))), rfl, bel.frame _, fun h => by cases h⟩

theorem orders_over : Rows.trieOrdersRow.holds Try.pinned (OpenSpec.ofChange Rows.trieOrdersSpec) :=
  OpenClaim.holds_of_wide 4 Try.f4 rfl rfl rfl rfl rfl rfl rfl ⟨rfl, rfl, rfl, rfl, rfl⟩ rfl rfl rfl rfl rfl (by kernel_rfl) Try.func4 (by kernel_rfl)
    (of_decide_eq_true (by kernel_rfl)) (by unfold Func.isWrapper; rw [if_neg (of_decide_eq_false (by kernel_rfl))]; exact ⟨rfl, rfl⟩)
    (fun os started H enc _ => orders_lifted os started H enc)

theorem trieOrders_holds : Rows.TrieOrdersSaid := orders_over
#print axioms trieOrders_holds

end Go.Proofs.Ytdhebjeajdohoaa
