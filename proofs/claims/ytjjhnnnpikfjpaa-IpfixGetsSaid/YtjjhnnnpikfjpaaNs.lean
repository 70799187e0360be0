/- Pieces of bytes: the reference's Records, SamePieces. -/
import Derived.Test.YtjjhnnnpikfjpaaNr
namespace Go.Proofs.Ytjjhnnnpikfjpaa
open Go.RowKit

theorem T42 : Rep.Ty Try.prog 42 RH 24 := Rep.Ty.mk' Try.underlying42 (z := .slice none 0 0) (by kernel_rfl) rfl
/-- the whole pieces -/
def pc (n : Nat) (l : List Nat) (i : Nat) : List Nat := (l.drop (i * n)).take n
def pcs (n : Nat) (l : List Nat) (k : Nat) : List (List Nat) := (List.range k).map (pc n l)
theorem pcs_succ (n : Nat) (l : List Nat) (k : Nat) : pcs n l (k + 1) = pcs n l k ++ [pc n l k] := by simp [pcs, List.range_succ]
/-- slices of bytes, out of blocks of bytes -/
structure PSS (w : World) (vs : List (Option Addr × Nat × Nat)) (ls : List (List Nat)) : Prop where
  len : vs.length = ls.length
  all : ∀ j, j < ls.length → B5 w (vs.getD j default).1 (vs.getD j default).2.1 (vs.getD j default).2.2 (ls.getD j default) ∧ Bytes (ls.getD j default)
theorem PSS.keep {w w' : World} {vs : List (Option Addr × Nat × Nat)} {ls : List (List Nat)} (h : PSS w vs ls) (hb : Keep5 w w') : PSS w' vs ls := ⟨h.len, fun j hj => ⟨(h.all j hj).1.keep hb, (h.all j hj).2⟩⟩
theorem PSS.nil (w : World) : PSS w [] [] := ⟨rfl, fun j hj => by cases hj⟩
theorem getD_snoc_lt {α : Type} [Inhabited α] (l : List α) (x : α) (j : Nat) (h : j < l.length) : (l ++ [x]).getD j default = l.getD j default := by simp [List.getD_eq_getElem?_getD, List.getElem?_append_left h]
theorem getD_snoc_eq {α : Type} [Inhabited α] (l : List α) (x : α) : (l ++ [x]).getD l.length default = x := by simp [List.getD_eq_getElem?_getD]
theorem PSS.snoc {w : World} {vs : List (Option Addr × Nat × Nat)} {ls : List (List Nat)} (h : PSS w vs ls) {oa : Option Addr} {n c : Nat} {l : List Nat} (hb : B5 w oa n c l) (hy : Bytes l) : PSS w (vs ++ [(oa, n, c)]) (ls ++ [l]) := by
  refine ⟨by simp [h.len], fun j hj => ?_⟩
  rw [List.length_append, List.length_singleton] at hj
  by_cases hlt : j < ls.length
  · rw [getD_snoc_lt _ _ _ (by rw [h.len]; exact hlt), getD_snoc_lt _ _ _ hlt]
    exact h.all j hlt
  · obtain rfl : j = ls.length := by omega
    rw [getD_snoc_eq]
    have := getD_snoc_eq vs (oa, n, c)
    rw [h.len] at this
    rw [this]
    exact ⟨hb, hy⟩
theorem rh_keep5 {w w' : World} {base : Nat} {v : Value} {l : List (Option Addr × Nat × Nat)} (h : RH.Own w base v l) (hs : w.heap.size ≤ w'.heap.size) (he : ∀ bad, v.ownBlock ≠ some bad → bad < w.heap.size → w'.heap[bad]? = w.heap[bad]?) : Keep5 w w' :=
  ⟨hs, fun b cs hb => he b (fun h1 => by
    rcases h.2 with ⟨h2, _⟩ | ⟨g, cap, cur, hv2, _, hh, _⟩
    · rw [h2] at h1; cases h1
    · rw [hv2] at h1
      injection h1 with h1
      dsimp only at h1
      subst h1
      rw [hb] at hh; injection hh with hh; injection hh with _ hh _; revert hh; decide) (lt_of_blk hb)⟩
/-- a slice that reads as bytes: an argument -/
structure BA (w : World) (oa : Option Addr) (n c : Nat) (l : List Nat) : Prop where
  sl : RB.Sl w oa n c l
  nil : oa = none → c = 0
  le : n ≤ c
  cap : c ≤ maxLen
theorem BA.below {w w' : World} {oa : Option Addr} {n c : Nat} {l : List Nat} (h : BA w oa n c l) (hb : Below w.heap.size w w') : BA w' oa n c l := ⟨h.sl.keep hb, h.nil, h.le, h.cap⟩
theorem BA.ad {w : World} {oa : Option Addr} {n c : Nat} {l : List Nat} (h : BA w oa n c l) (hn : 0 < n) : ∃ b o, oa = some ⟨b, o, none⟩ := by
  obtain ⟨b, o, e, -⟩ := h.sl.row hn
  exact ⟨b, o, e⟩
theorem B5.ba {w : World} {oa : Option Addr} {n c : Nat} {l : List Nat} (h : B5 w oa n c l) : BA w oa n c l := ⟨h.bs.sl, h.bs.nil, h.bs.le, h.bs.cap⟩
theorem BA.cut {w : World} {b o n c : Nat} {l : List Nat} (h : BA w (some ⟨b, o, none⟩) n c l) {i k : Nat} (hk : i + k ≤ n) : RB.Sl w (some ⟨b, o + i, none⟩) k (c - i) ((l.drop i).take k) := by
  have hbs : BS w (some ⟨b, o, none⟩) n c l := ⟨h.sl, h.nil, h.le, h.cap, .inr ⟨b, o, rfl⟩⟩
  exact (hbs.tail (k := i) (by omega)).init (by omega)
theorem B5.cut {w : World} {b o n c : Nat} {l : List Nat} (h : B5 w (some ⟨b, o, none⟩) n c l) {i k : Nat} (hk : i + k ≤ n) : RB.Sl w (some ⟨b, o + i, none⟩) k (c - i) ((l.drop i).take k) := (h.tail (k := i) (by omega)).init (by omega)
set_option maxRecDepth 100000 in
set_option maxHeartbeats 1000000 in
theorem rrecs_any (t : Tm) (w : World) (h : FdsOk w t.fs) (hodd : oddT t = false) (hz : 1 ≤ szT t ∧ szT t ≤ 3000000) {oa : Option Addr} {n c : Nat} {l : List Nat} (hb : BA w oa n c l) (hby : Bytes l) (hn : n ≤ 5000) : Calls Try.prog 20 #[t.v, .slice oa n c] w fun e w' => (∃ v vs, e = .returned v ∧ RH.Own w' w.heap.size v vs ∧ PSS w' vs (pcs (szT t) l (n / szT t))) ∧ Below w.heap.size w w' := by
  have hal := (Below.refl w.heap.size w).alloc (Nat.le_refl _) (.cells #[.int .i64 t.id, .slice t.fs.a t.fs.n t.fs.c] 41)
  have hb1 : TmS w.heap.size #[.int .i64 t.id, .slice t.fs.a t.fs.n t.fs.c] (w.alloc (.cells #[.int .i64 t.id, .slice t.fs.a t.fs.n t.fs.c] 41)) := hnew _ _
  have hsz := rsize_tm t _ (h.keep hal)
  have hlen := hb.sl.len.symm
  unfold Tm.v at *
  generalize szT t = Z at *
  have HA := Lib.hid (And.intro hal (And.intro hsz (And.intro hb (And.intro hby (And.intro hz hlen)))))
  obtain ⟨e0, e1⟩ := hb1.cells
  obtain ⟨id, s⟩ := t
  dsimp only at *
  clear hal hsz hb hby hb1 h hodd hlen
  obtain ⟨z, rfl⟩ : ∃ z, Z = z := ⟨_, rfl⟩
  go_enter Try.func20, Try.ntmps20
  go_wp2_with fail
  refine (HA.out.2.1).mono ?_
  rintro e w1 ⟨rfl, hb1⟩
  clear e0 e1
  have HB := Lib.hid (bcall HA.out.1 (Nat.le_refl _) hb1)
  clear hb1 hz
  go_wp2_with fail
  go_loopw [6, 7] (fun sv iv wr => ∃ (k : Nat) (vs : List (Option Addr × Nat × Nat)), k * Z ≤ n ∧ k ≤ n ∧ iv = .int .i64 ((k * Z : Nat) : Int) ∧ RH.Own wr w.heap.size sv vs ∧ PSS wr vs (pcs Z l k) ∧ Below w.heap.size w wr) (fun _ iv _ => n - (intOf iv).toNat)
  case atStart => exact ⟨0, [], by omega, by omega, by simp, Rep.Own.nil _ _, PSS.nil _, HB.out⟩
  case round =>
    obtain ⟨k, vs, hk, hkn, rfl, hown, hps, hbl⟩ := hrel
    obtain ⟨w2, rfl⟩ : ∃ w2 : World, w2 = wr := ⟨_, rfl⟩
    obtain ⟨m, hm⟩ : ∃ m, m = k * Z := ⟨_, rfl⟩
    have HM := Lib.hid hm
    rw [← hm] at hk ⊢
    clear hm
    have hZ := HA.out.2.2.2.2.1
    have hw1 : IntKind.i64.wrap ((m : Int) + (Z : Int)) = ((m + Z : Nat) : Int) := by rw [IntWalk.i64_in _ (by omega)]; omega
    by_cases hlt : m + Z ≤ n
    · have hil : ((m : Int) + (Z : Int) ≤ (n : Int)) = True := by simp; omega
      obtain ⟨b, o, had⟩ := HA.out.2.2.1.ad (by omega)
      subst had
      have hle := HA.out.2.2.1.le
      have hcap := HA.out.2.2.1.cap
      have hmc : ¬ c = m := by omega
      have hal := (Below.refl w2.heap.size w2).alloc (Nat.le_refl _) (.cells #[] 5)
      have hcut := ((HA.out.2.2.1.below hbl).below hal).cut (i := m) (k := Z) hlt
      have HX := Lib.hid (And.intro hal (And.intro hcut (And.intro hown (And.intro hps hbl))))
      have hre := rb_empty w2
      have HRE := Lib.hid hre
      clear hal hcut hown hps hbl hre
      go_wp2_with (at_builtin; refine halt ?_)
      refine Halted.go ?_
      refine Rep.append_list T27 rfl _ _ rfl (base := w2.heap.size) (L := []) (m := m + Z - m) (M := (l.drop m).take Z) rfl HRE.out rfl (by rw [Nat.add_sub_cancel_left]; exact HX.out.2.1) (fun h => by cases h) (by unfold maxLen; simp; omega) (by simp; omega) (by simp) ?_
      intro v3 w3 ho3 hb3 _
      rw [List.nil_append] at ho3
      obtain ⟨oa3, c3, rfl, hs3⟩ := b5_own ho3
      have hb13 := HX.out.1.trans hb3
      obtain ⟨q3, hq3⟩ : ∃ q3, q3 = ((l.drop m).take Z).length := ⟨_, rfl⟩
      rw [← hq3] at hs3
      have hal4 := (Below.refl w3.heap.size w3).alloc (Nat.le_refl _) (.cells #[.slice oa3 q3 c3] 27)
      have hb14 := bcall hb13 (Nat.le_refl _) hal4
      have ho4 : RH.Own (w3.alloc (.cells #[.slice oa3 q3 c3] 27)) w.heap.size (.slice (some ⟨w3.heap.size, 0, none⟩) 1 1) [(oa3, q3, c3)] := ⟨rfl, .inr ⟨w3.heap.size, 1, #[.slice oa3 q3 c3], rfl, Nat.le_trans HX.out.2.2.2.2.size hb13.size, hnew _ _, Nat.le_refl _, by unfold maxLen; omega, rfl, rfl⟩⟩
      have HY := Lib.hid (And.intro ho4 (And.intro (HX.out.2.2.1.below hb14) (And.intro ((HX.out.2.2.2.1.keep (.of_below hb14)).snoc (hs3.below hal4) ((HA.out.2.2.2.1.drop m).take Z)) (bcall HX.out.2.2.2.2 (Nat.le_refl _) hb14))))
      have hvl : vs.length ≤ 5000 := by have := HX.out.2.2.2.1.len; simp [pcs] at this; omega
      have HQ3 := Lib.hid hq3
      clear ho3 hb3 hs3 hb13 hal4 hb14 ho4
      rw [← hq3]
      clear hq3
      go_wp2_with (at_builtin; refine halt ?_)
      refine Halted.go ?_
      obtain ⟨oa9, c9, hv9, -, -, hs9, -⟩ := HY.out.1.sl
      simp only [Value.slice.injEq] at hv9
      obtain ⟨rfl, -, rfl⟩ := hv9
      refine Rep.append_list2 T42 rfl _ _ rfl (base := w.heap.size) (m := 1) rfl HY.out.2.1 rfl hs9 (by omega) (by unfold maxLen; omega) (by omega) HY.out.2.2.2.size ?_
      intro v5 w5 ho5 hb5 he5
      have hk5 := rh_keep5 HY.out.2.1 hb5.size (fun bad h1 h2 => (he5 bad h1 h2).2)
      have HZ := Lib.hid (And.intro ho5 (And.intro (HY.out.2.2.1.keep hk5) (HY.out.2.2.2.trans hb5)))
      clear ho5 hb5 he5 hk5 hs9
      go_wp2_with fail
      have e1 : (m + Z : Nat) = (k + 1) * Z := by rw [HM.out, Nat.add_mul, Nat.one_mul]
      refine ⟨⟨k + 1, vs ++ [(oa3, q3, c3)], by rw [← e1]; exact hlt, ?_, ?_, HZ.out.1, ?_, HZ.out.2.2⟩, ?_⟩
      · have : (k + 1) * 1 ≤ (k + 1) * Z := Nat.mul_le_mul_left _ hZ.1
        omega
      · rw [← e1]; rfl
      · have h := HZ.out.2.1
        rw [HM.out] at h
        rw [pcs_succ]
        exact h
      · show n - ((m : Int) + (Z : Int)).toNat < n - (m : Int).toNat
        omega
    · have hil : ((m : Int) + (Z : Int) ≤ (n : Int)) = False := by simp; omega
      have hkd : k = n / Z := by
        have h1 := HM.out
        have h2 : (k + 1) * Z = k * Z + Z := by rw [Nat.add_mul, Nat.one_mul]
        exact (Nat.div_eq_of_lt_le (by omega) (by omega)).symm
      have HZ := Lib.hid (And.intro hown (And.intro hps (And.intro hbl hkd)))
      clear hown hps hbl hkd
      go_wp2_with fail
      go_ret
      exact ⟨⟨_, vs, rfl, HZ.out.1, HZ.out.2.2.2 ▸ HZ.out.2.1⟩, HZ.out.2.2.1⟩
set_option maxRecDepth 100000 in
set_option maxHeartbeats 1000000 in
theorem same_pcs {w : World} {oa oa' : Option Addr} {n c n' c' : Nat} {vs vs' : List (Option Addr × Nat × Nat)} {ls : List (List Nat)} (h1 : RH.Sl w oa n c vs) (p1 : PSS w vs ls) (h2 : RH.Sl w oa' n' c' vs') (p2 : PSS w vs' ls) : Calls Try.prog 19 #[.slice oa n c, .slice oa' n' c'] w fun e w' => e = .returned (.bool true) ∧ Below w.heap.size w w' := by
  have hnn : n = n' := by have := h1.len; have := h2.len; have := p1.len; have := p2.len; omega
  subst hnn
  have hls : ls.length = n := by rw [← p1.len]; exact h1.len.symm
  have H := Lib.hid (And.intro h1 (And.intro p1 (And.intro h2 p2)))
  clear h1 p1 h2 p2
  go_enter Try.func19, Try.ntmps19
  go_wp2_with fail
  go_loopw [5] (fun iv wr => ∃ i : Nat, i ≤ n ∧ iv = .int .i64 i ∧ Below w.heap.size w wr) (fun iv _ => n - (intOf iv).toNat)
  case atStart => exact ⟨0, Nat.zero_le _, rfl, Below.refl _ _⟩
  case round =>
    obtain ⟨i, hi, rfl, hb⟩ := hrel
    obtain ⟨w2, rfl⟩ : ∃ w2 : World, w2 = wr := ⟨_, rfl⟩
    by_cases hlt : i < n
    · have hil : ((i : Int) < (n : Int)) = True := by simp; omega
      have hw3 := wrapS hlt H.out.1.max
      have hbd := Below.drew hb
      obtain ⟨bb, oo, rfl, hbb, hat⟩ := (H.out.1.keep hbd).at hlt
      obtain ⟨bb', oo', rfl, hbb', hat'⟩ := (H.out.2.2.1.keep hbd).at hlt
      have c0 := hat 0 (by decide)
      have d0 := hat' 0 (by decide)
      simp only [RH, Nat.mul_one, Nat.add_zero, List.getElem?_cons_zero] at c0 d0
      have hx := (H.out.2.1.keep (.of_below hbd)).all i (by omega)
      have hy := (H.out.2.2.2.keep (.of_below hbd)).all i (by omega)
      have k1 := conv_bs hx.1.sl hx.2
      have k2 := conv_bs hy.1.sl hy.2
      generalize vs.getD i default = x at *
      generalize vs'.getD i default = y at *
      generalize strOf (ls.getD i default) = S at *
      have HB := Lib.hid hbd
      clear hx hy hat hat' hb hbd
      go_wp2_with fail
      refine wp_region_heldP (fun w' => w' = w2.drew) (by kernel_rfl) ?_
      generalize w2.drew = Wd at *
      refine held_reads [0, 1, 2, 3, 4, 5, 6, 7, 8, 9, 10] (g := 0) rfl (by kernel_rfl) rfl (fun _ _ d _ _ h => by cases d <;> exact h) ?_
      simp only [pick, List.getD_cons_zero, List.getD_cons_succ]
      iterate 11 ((with_reducible refine wpRead_step (fun K hK => ?_)); go_simp; first | ((with_reducible refine hK _ ?_); clear hK K) | (apply Exists.intro; (with_reducible refine ⟨fun w' hw' => ?_, hK _ ?_⟩); (subst hw'; go_simp; first | exact rfl | exact ⟨rfl, rfl⟩); clear hK K))
      with_reducible refine wpRead_nil ?_
      refine wpAnyH_done (by kernel_rfl) ?_ _
      go_wp2_with fail
      exact ⟨⟨i + 1, hlt, by first | rw [hw3] | rw [Int.natCast_succ], HB.out⟩, by first | (rw [hw3]; exact mSucc hlt) | (rw [← Int.natCast_succ]; exact mSucc hlt)⟩
    · obtain rfl : n = i := by omega
      have hil : ((n : Int) < (n : Int)) = False := by simp
      have HB := Lib.hid hb
      clear hb
      go_wp2_with fail
      go_ret
      exact ⟨rfl, HB.out⟩
end Go.Proofs.Ytjjhnnnpikfjpaa
