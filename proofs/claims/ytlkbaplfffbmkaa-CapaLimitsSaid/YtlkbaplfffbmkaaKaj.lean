/- hop.All: all of good ones, by their numbers. -/
import Derived.Test.YtlkbaplfffbmkaaKai
import Derived.Test.YtlkbaplfffbmkaaKae
import Derived.Test.YtlkbaplfffbmkaaKab
import Derived.Test.YtlkbaplfffbmkaaKad
namespace Go.Proofs.Ytlkbaplfffbmkaa
open Go.RowKit

theorem hdOf_of (l : List If) : (hdOf l).of = (l.map fun x => (x.id, x)).reverse := by
  have h : ∀ (l : List If) (D : HD), (l.foldl HD.add D).of = (l.map fun x => (x.id, x)).reverse ++ D.of := by
    intro l
    induction l with
    | nil => intro D; rfl
    | cons x r ih => intro D; rw [List.foldl_cons, ih]; simp [HD.add]
  have := h l hd0
  rw [show hd0.of = [] from rfl, List.append_nil] at this
  exact this
theorem get_mem {l : List If} {id : Int} {y : If} (h : (hdOf l).get id = some y) : y ∈ l ∧ y.id = id := by
  unfold HD.get at h
  rw [hdOf_of] at h
  simp only [Option.map_eq_some_iff] at h
  obtain ⟨p, hp, rfl⟩ := h
  have h1 := List.find?_some hp
  have h2 := List.mem_of_find?_eq_some hp
  simp only [List.mem_reverse, List.mem_map] at h2
  obtain ⟨x, hx, rfl⟩ := h2
  exact ⟨hx, by simpa using h1⟩
theorem Good.ndid {l : List If} (h : Good l) : (l.map If.id).Nodup := nodup_get.2 h.ids
theorem get_of {l : List If} (h : Good l) {x : If} (hx : x ∈ l) : (hdOf l).get x.id = some x := by
  cases hg : (hdOf l).get x.id with
  | none =>
    unfold HD.get at hg
    rw [hdOf_of] at hg
    simp only [Option.map_eq_none_iff, List.find?_eq_none] at hg
    have := hg (x.id, x) (by simp; exact hx)
    simp at this
  | some y =>
    obtain ⟨h1, h2⟩ := get_mem hg
    rw [MR.inj_of_nodup h.ndid h1 hx h2]
/-- a map's entries, as interfaces -/
def entI (l : List If) (e : MR.Ent Int) : If := ((hdOf l).get e.1).getD default
theorem ents_are {w : World} {bm clk : Nat} {es : List (MR.Ent Int)} {l : List If} (hg : Good l) (hm : MR.MapAt IN w bm es clk) (h : ∀ id, MR.get? es id = ((hdOf l).get id).map If.v) : (∀ e ∈ es, e.2.1 = (entI l e).v ∧ (entI l e).id = e.1 ∧ entI l e ∈ l) ∧ (es.map (entI l)).Perm l := by
  have h1 : ∀ e ∈ es, e.2.1 = (entI l e).v ∧ (entI l e).id = e.1 ∧ entI l e ∈ l := by
    intro e he
    have h2 := MR.get?_mem hm.nodup he
    rw [h] at h2
    simp only [Option.map_eq_some_iff] at h2
    obtain ⟨x, hx, hv⟩ := h2
    have : entI l e = x := by unfold entI; rw [hx]; rfl
    rw [this]
    exact ⟨hv.symm, (get_mem hx).2, (get_mem hx).1⟩
  refine ⟨h1, ?_⟩
  have hn : ((es.map (entI l)).map If.id).Nodup := by
    rw [List.map_map]
    have : es.map (If.id ∘ entI l) = es.map (·.1) := List.map_congr_left fun e he => (h1 e he).2.1
    rw [this]
    exact hm.nodup
  rw [List.perm_ext_iff_of_nodup (MR.nodup_of_map hn) (MR.nodup_of_map hg.ndid)]
  intro x
  constructor
  · intro hx
    obtain ⟨e, he, rfl⟩ := List.mem_map.1 hx
    exact (h1 e he).2.2
  · intro hx
    have h3 := h x.id
    rw [get_of hg hx] at h3
    obtain ⟨e, he, he1, -⟩ := MR.mem_of_get? h3
    refine List.mem_map.2 ⟨e, he, ?_⟩
    exact MR.inj_of_nodup hg.ndid (h1 e he).2.2 hx ((h1 e he).2.1.trans he1)
/-- Go's cmp.Compare of ints -/
def cmpI (a b : Int) : Int := if a < b then -1 else if b < a then 1 else 0
theorem nan_any (a : Int) (w : World) : Calls Try.prog 63 #[.int .i64 a] w fun e w' => e = .returned (.bool false) ∧ w' = w := by
  have h : (a == a) = true := by simp
  go_enter Try.func63, Try.ntmps63
  go_wp2_with fail
  go_ret
  exact ⟨rfl, rfl⟩
theorem cmp_any (a b : Int) (w : World) : Calls Try.prog 47 #[.int .i64 a, .int .i64 b] w fun e w' => e = .returned (.int .i64 (cmpI a b)) ∧ w' = w := by
  have HA := Lib.hid (fun W => nan_any a W)
  have HB := Lib.hid (fun W => nan_any b W)
  obtain ⟨c, hc⟩ : ∃ c, cmpI a b = c := ⟨_, rfl⟩
  rw [hc]
  unfold cmpI at hc
  have HC := Lib.hid hc
  clear hc
  by_cases h1 : a < b
  · have e1 : (a < b) = True := eq_true h1
    go_enter Try.func47, Try.ntmps47
    go_wp2_with fail
    refine (HA.out _).mono ?_
    rintro e w1 ⟨rfl, hw1⟩
    subst w1
    go_wp2_with fail
    refine (HB.out _).mono ?_
    rintro e w1 ⟨rfl, hw1⟩
    subst w1
    go_wp2_with fail
    go_ret
    exact ⟨ret_int (by rw [← HC.out, if_pos (of_eq_true e1)]), rfl⟩
  · have e1 : (a < b) = False := eq_false h1
    by_cases h2 : b < a
    · have e2 : (b < a) = True := eq_true h2
      clear h1 h2
      go_enter Try.func47, Try.ntmps47
      go_wp2_with fail
      refine (HA.out _).mono ?_
      rintro e w1 ⟨rfl, hw1⟩
      subst w1
      go_wp2_with fail
      refine (HB.out _).mono ?_
      rintro e w1 ⟨rfl, hw1⟩
      subst w1
      go_wp2_with fail
      go_ret
      exact ⟨ret_int (by rw [← HC.out, if_neg (of_eq_false e1), if_pos (of_eq_true e2)]), rfl⟩
    · have e2 : (b < a) = False := eq_false h2
      clear h1 h2
      go_enter Try.func47, Try.ntmps47
      go_wp2_with fail
      refine (HA.out _).mono ?_
      rintro e w1 ⟨rfl, hw1⟩
      subst w1
      go_wp2_with fail
      refine (HB.out _).mono ?_
      rintro e w1 ⟨rfl, hw1⟩
      subst w1
      go_wp2_with fail
      go_ret
      exact ⟨ret_int (by rw [← HC.out, if_neg (of_eq_false e1), if_neg (of_eq_false e2)]), rfl⟩
def cmpIf (x y : If) : Int := cmpI x.id y.id
theorem swo_cmp {α : Type} [Inhabited α] (f : α → Int) : Go.Sort.SWO (Go.Proofs.ltOf fun x y => cmpI (f x) (f y)) := by
  have h : ∀ x y : α, Go.Proofs.ltOf (fun x y => cmpI (f x) (f y)) x y = decide (f x < f y) := by
    intro x y
    unfold Go.Proofs.ltOf cmpI
    by_cases h1 : f x < f y
    · simp [h1]
    · by_cases h2 : f y < f x <;> simp [h1, h2]
  exact ⟨fun x => by rw [h]; simp, fun x y z h1 h2 => by rw [h] at *; simp at *; omega, fun x y z h1 h2 => by rw [h] at *; simp at *; omega⟩
set_option maxHeartbeats 1000000 in
theorem cmpIf_lays (g n : Nat) (w : World) : Go.Proofs.CmpLays Try.prog 46 #[] RIf.cells RIf.k cmpIf g 0 n w := by
  intro m os dk _ x y
  generalize Go.Proofs.sortWorldK RIf.cells RIf.k w g 0 m dk os = W
  have HC := Lib.hid (fun W' => cmp_any x.id y.id W')
  show Calls Try.prog 46 #[.agg #[.int .i64 x.id, .int .i64 x.r, .int .u32 (x.ad : Int), .int .i64 x.ln, .int .i64 x.cp], .agg #[.int .i64 y.id, .int .i64 y.r, .int .u32 (y.ad : Int), .int .i64 y.ln, .int .i64 y.cp]] W _
  unfold cmpIf
  generalize cmpI x.id y.id = c at *
  go_enter Try.func46, Try.ntmps46
  go_wp2_with fail
  refine (HC.out _).mono ?_
  rintro e w1 ⟨rfl, hw1⟩
  subst w1
  go_wp2_with fail
  go_ret
  exact ⟨ret_int rfl, 0, _, by rw [Go.Sort.alloc_eq_grow, Go.Sort.alloc_eq_grow, Go.Sort.grow_grow]; rfl⟩
/-- sorted by number, and a permutation of the good ones: it is their order -/
theorem sorted_ids {M : List If} (h : Rep.SortedBy cmpIf M) (hn : (M.map If.id).Nodup) : M.Pairwise fun a b => a.id < b.id := by
  rw [List.pairwise_iff_getElem]
  intro i j hi hj hij
  have h1 := h i j hij hj
  simp only [List.getD_eq_getElem?_getD, List.getElem?_eq_getElem hi, List.getElem?_eq_getElem hj, Option.getD_some] at h1
  unfold cmpIf cmpI at h1
  rw [List.nodup_iff_pairwise_ne, List.pairwise_iff_getElem] at hn
  have h2 := hn i j (by simpa using hi) (by simpa using hj) hij
  simp only [List.getElem_map] at h2
  split at h1
  · omega
  · omega
theorem insI_sorted {out : List If} {x : If} (h : out.Pairwise fun a b => a.id < b.id) (hx : ∀ y ∈ out, y.id ≠ x.id) : (insI out x).Pairwise fun a b => a.id < b.id := by
  unfold insI
  induction out with
  | nil => simp
  | cons a r ih =>
    rw [List.pairwise_cons] at h
    by_cases ha : a.id < x.id
    · rw [List.takeWhile_cons_of_pos (by simpa using ha), List.dropWhile_cons_of_pos (by simpa using ha), List.cons_append, List.pairwise_cons]
      refine ⟨fun b hb => ?_, ih h.2 fun y hy => hx y (List.mem_cons_of_mem _ hy)⟩
      rcases List.mem_append.1 hb with hb | hb
      · exact h.1 b (List.takeWhile_subset _ hb)
      · rcases List.mem_cons.1 hb with rfl | hb
        · exact ha
        · exact h.1 b (List.dropWhile_subset _ hb)
    · rw [List.takeWhile_cons_of_neg (by simpa using ha), List.dropWhile_cons_of_neg (by simpa using ha), List.nil_append, List.pairwise_cons, List.pairwise_cons]
      have hxa : x.id < a.id := by have := hx a (by simp); omega
      exact ⟨fun b hb => by
        rcases List.mem_cons.1 hb with rfl | hb
        · exact hxa
        · have := h.1 b hb; omega, h.1, h.2⟩
theorem sortI_sorted {l : List If} (hn : (l.map If.id).Nodup) : (sortI l).Pairwise fun a b => a.id < b.id := by
  have : ∀ i, (sortI (l.take i)).Pairwise fun a b => a.id < b.id := by
    intro i
    induction i with
    | zero => simp [sortI]
    | succ i ih =>
      by_cases hi : i < l.length
      · rw [sortI_succ hi]
        refine insI_sorted ih fun y hy => ?_
        rw [sortI_mem] at hy
        obtain ⟨k, hk, rfl⟩ := List.mem_iff_getElem.1 hy
        simp only [List.length_take] at hk
        have := nodup_get.1 hn k i (by omega) hi
        simp only [List.getD_eq_getElem?_getD, List.getElem?_eq_getElem hi, List.getElem?_eq_getElem (show k < l.length by omega), Option.getD_some] at this
        rw [List.getElem_take]
        simpa [List.getD_eq_getElem?_getD, List.getElem?_eq_getElem hi] using this
      · rw [List.take_of_length_le (by omega)]
        rw [List.take_of_length_le (by omega)] at ih
        exact ih
  have := this l.length
  rwa [List.take_of_length_le (Nat.le_refl _)] at this
theorem sorted_eq {M L : List If} (hM : M.Pairwise fun a b => a.id < b.id) (hL : L.Pairwise fun a b => a.id < b.id) (h : ∀ x, x ∈ M ↔ x ∈ L) : M = L := by
  induction M generalizing L with
  | nil =>
    cases L with
    | nil => rfl
    | cons y r => exact absurd ((h y).2 (by simp)) (by simp)
  | cons x r ih =>
    cases L with
    | nil => exact absurd ((h x).1 (by simp)) (by simp)
    | cons y s =>
      rw [List.pairwise_cons] at hM hL
      have hxy : x = y := by
        have h1 := (h x).1 (by simp)
        have h2 := (h y).2 (by simp)
        rcases List.mem_cons.1 h1 with e | h1
        · exact e
        · rcases List.mem_cons.1 h2 with e | h2
          · exact e.symm
          · have a1 := hL.1 x h1
            have a2 := hM.1 y h2
            omega
      subst hxy
      rw [ih hM.2 hL.2 fun z => ?_]
      have := h z
      simp only [List.mem_cons] at this
      constructor
      · intro hz
        rcases this.1 (.inr hz) with rfl | h3
        · have := hM.1 _ hz; omega
        · exact h3
      · intro hz
        rcases this.2 (.inr hz) with rfl | h3
        · have := hL.1 _ hz; omega
        · exact h3
theorem sorted_is {M l : List If} (hg : Good l) (hp : M.Perm l) (hs : Rep.SortedBy cmpIf M) : M = sortI l :=
  sorted_eq (sorted_ids hs ((hp.map If.id).nodup_iff.2 hg.ndid)) (sortI_sorted hg.ndid) fun x => by rw [sortI_mem]; exact hp.mem_iff
end Go.Proofs.Ytlkbaplfffbmkaa
/- hop.All: walked. -/
namespace Go.Proofs.Ytlkbaplfffbmkaa
open Go.RowKit

theorem MR.Ran.len {κ : Type} {l done : List (MR.Ent κ)} {seen : Array Nat} (h : MR.Ran l seen done) (hb : (l.map (·.2.2)).Nodup) : done.length ≤ l.length := by
  classical
  have := (List.perm_ext_iff_of_nodup (MR.nodup_of_map h.nodup) ((MR.nodup_of_map hb).sublist (List.filter_sublist (p := fun e => decide (e ∈ done))))).2 (fun e => by simp; exact h.sub e)
  rw [this.length_eq]; exact List.length_filter_le _ _
def lenV : Value → Nat
  | .slice _ n _ => n
  | _ => 0
theorem Own_lenV {α : Type} [Inhabited α] {R : Rep α} {w : World} {base : Nat} {v : Value} {L : List α} (h : R.Own w base v L) : lenV v = L.length := by
  rcases h.cases with ⟨rfl, rfl⟩ | ⟨g, cap, rfl, -⟩ <;> rfl
theorem all_nil (w : World) : Calls Try.prog 19 #[.pointer none] w fun e w' => e = .returned (.slice none 0 0) ∧ w' = w := by
  go_enter Try.func19, Try.ntmps19
  go_wp2_with fail
  go_ret
  exact ⟨rfl, rfl⟩
theorem enters_cl : Go.Proofs.Enters Try.prog 46 := Go.Proofs.enters_of Try.func46 (by decide) rfl
set_option maxRecDepth 100000 in
set_option maxHeartbeats 2000000 in
theorem all_any {w : World} {h : Nat} {l : List If} (H : HopsAt w h (hdOf l)) (hg : Good l) : Calls Try.prog 19 #[.pointer (some ⟨h, 0, none⟩)] w fun e w' => ∃ v, e = .returned v ∧ RIf.Own w' w.heap.size v (sortI l) ∧ Below w.heap.size w w' := by
  obtain ⟨⟨bm, clk, es, b, h1, h2, h3, h4⟩, hw⟩ := H
  obtain ⟨he1, hpm⟩ := ents_are hg h2 h3
  have hel : es.length = l.length := by rw [← hpm.length_eq, List.length_map]
  have hle : es.length ≤ 256 := hel ▸ hg.len
  have hrg := MR.run_range IN h2 Try.underlying76
  have c0 : w.cell? ⟨h, 0, none⟩ = some (.map (some bm)) := cell_of h1 rfl
  have hbm := lt_of_blk h2.blk
  have h2' : MR.MapAt IN (w.alloc (.mapIter (some bm) clk #[] clk)) bm es clk := h2.blk_iff _ (Below.heap_alloc w _ _ hbm)
  have hal := (Below.refl w.heap.size w).alloc (Nat.le_refl _) (.mapIter (some bm) clk #[] clk)
  have hit : (w.alloc (.mapIter (some bm) clk #[] clk)).heap[w.heap.size]? = some (.mapIter (some bm) clk #[] clk) := hnew _ _
  have HF := Lib.hid (And.intro he1 (And.intro hpm (And.intro hg (And.intro hle (And.intro h2.bnodup hbm)))))
  have HW := Lib.hid (And.intro h2 (And.intro h2' (And.intro hal hit)))
  clear h1 h2 h3 h4 hw he1 hpm hel hg hle h2' hal hit hbm
  go_enter Try.func19, Try.ntmps19
  go_wp2_with fail
  go_loopw [3] (fun ov wr => ∃ (done : List (MR.Ent Int)) (seen : Array Nat), RIf.Own wr (w.heap.size + 1) ov (done.map (entI l)) ∧ wr.heap[w.heap.size]? = some (.mapIter (some bm) clk seen clk) ∧ MR.Ran es seen done ∧ Below w.heap.size w wr ∧ w.heap.size + 1 ≤ wr.heap.size) (fun ov _ => es.length - lenV ov)
  case atStart => exact ⟨[], #[], Rep.Own.nil _ _, HW.out.2.2.2, MR.Ran.none _, HW.out.2.2.1, by simp⟩
  case round =>
    obtain ⟨done, seen, hown, hit, hran, hb, hsz⟩ := hrel
    obtain ⟨w2, rfl⟩ : ∃ w2 : World, w2 = wr := ⟨_, rfl⟩
    have hm2 : MR.MapAt IN w2 bm es clk := HW.out.1.blk_iff IN (hb.block _ HF.out.2.2.2.2.2)
    have hdl : done.length ≤ es.length := hran.len HF.out.2.2.2.2.1
    rcases MR.next_step IN hm2 hit 0 with ⟨hall, hnx⟩ | ⟨e, hein, hens, w3, hnx, hset⟩
    · have hpe := hran.all HF.out.2.2.2.2.1 hall
      obtain ⟨oa, cc, rfl, -, -⟩ := hown.sl0
      have hbs : w.heap.size + 1 ≤ w2.heap.size := hsz
      have hln : (done.map (entI l)).length < 4611686018427387904 := by rw [List.length_map]; have := HF.out.2.2.2.1; omega
      have HS := Lib.hid (Rep.sort_own (R := RIf) sortIf Try.isAgg34 Try.sizeOf34 cmpIf (swo_cmp If.id) 46 #[] enters_cl hown (fun g => cmpIf_lays g _ _) hln hbs)
      have G := Lib.hid (And.intro (hpe.map (entI l)) hb)
      generalize (done.map (entI l)).length = m at *
      clear hown hm2 hit hran hb hdl hall hpe hln
      have HM := Lib.hid HF.out.2.1
      have HG0 := Lib.hid HF.out.2.2.1
      go_wp2_with fail
      refine (HS.out).mono ?_
      rintro ev w9 ⟨rfl, M, hp, hs, hown9, hb9⟩
      have HE := Lib.hid (show RIf.Own w9 (w.heap.size + 1) (.slice oa m cc) (sortI l) ∧ Below w.heap.size w w9 from by
        have := sorted_is HG0.out (hp.trans (G.out.1.trans HM.out)) hs
        subst this
        exact ⟨hown9, G.out.2.trans (hb9.mono (Nat.le_succ _))⟩)
      clear hp hs hown9 hb9 HS G HM HG0
      go_wp2_with fail
      go_ret
      exact ⟨_, rfl, HE.out.1.mono (Nat.le_succ _), HE.out.2⟩
    · have hm3 := hm2.blk_iff IN (hset.other (show bm ≠ w.heap.size from by have := HF.out.2.2.2.2.2; omega))
      have hen := MR.run_entry IN hm3 hein (hset.at hsz)
      rw [(HF.out.1 e hein).1] at hnx hen
      have hown3 := Rep.Own.but hown (But.of_set hset (bs := [w.heap.size]) (by simp)) (by simp)
      have hb3 : Below w.heap.size w w3 := hb.trans (hset.below (Nat.le_refl _))
      have hr3 := hran.more hein hens
      have hit3 := hset.at hsz
      have hs3 : w.heap.size + 1 ≤ w3.heap.size := by rw [hset.size]; exact hsz
      have hdl3 : (done ++ [e]).length ≤ es.length := hr3.len HF.out.2.2.2.2.1
      have hme : (done ++ [e]).map (entI l) = done.map (entI l) ++ [entI l e] := by simp
      have hlv := Own_lenV hown
      have hln : (done.map (entI l)).length = done.length := List.length_map _
      have hl2 : (done ++ [e]).length = done.length + 1 := by simp
      have hale := HF.out.2.2.2.1
      obtain ⟨oa, cc, rfl, -, -⟩ := hown.sl0
      have HG := Lib.hid (And.intro hown3 (And.intro hr3 (And.intro hb3 (And.intro hs3 (And.intro hit3 (And.intro hme (And.intro hdl3 (And.intro hlv (And.intro hln hl2)))))))))
      generalize (done.map (entI l)).length = m at *
      generalize entI l e = x at *
      unfold If.v at hnx hen
      clear hown hran hb hdl hm2 hit hm3 hset hens hown3 hr3 hb3 hs3 hit3 hme hdl3 hlv hln hl2 hein
      go_wp2_with (with_reducible refine halt_store 34 rfl ?_)
      refine Halted.go ?_
      have hal := (Below.refl w3.heap.size w3).alloc (Nat.le_refl _) (.cells #[.int .i64 0, .int .i64 0, .int .u32 0, .int .i64 0, .int .i64 0] 34)
      refine store_whole rfl 34 _ _ rfl w3.heap.size #[.int .i64 x.id, .int .i64 x.r, .int .u32 (x.ad : Int), .int .i64 x.ln, .int .i64 x.cp] rfl rfl (hnew _ _) rfl (by kernel_rfl) (by simp [Value.oneCell']) ?_
      intro wz hwz hsz
      have hzb : Below w3.heap.size w3 wz := Below.trans hal (hsz.below (Nat.le_refl _))
      obtain ⟨z0, z1, z2, z3, z4⟩ := IfS.cells (x := x) hwz
      have HZ := Lib.hid hzb
      clear hwz hsz hal hzb
      go_wp2_with (at_builtin; refine halt ?_)
      refine Halted.go ?_
      have hm2 : m + 1 ≤ 256 := by obtain ⟨k1, -, k2, k3⟩ := HG.out.2.2.2.2.2.2; omega
      refine Rep.append_one T23 rfl _ _ rfl rfl ((HG.out.1.below HZ.out).alloc _) x wz.heap.size 1 rfl (hnew _ _) (n := m) (by rw [List.length_map]; exact HG.out.2.2.2.2.2.2.2.2.1.symm) (by unfold maxLen; omega) (by show (m + 1) * 40 ≤ _; omega) (by have := HZ.out.size; have := HG.out.2.2.2.1; simp; omega) ?_
      intro v7 w7 hown7 hb7 _
      have hbz : Below (w.heap.size + 1) w3 w7 := (HZ.out.mono HG.out.2.2.2.1).trans (((Below.refl _ _).alloc (Nat.le_trans HG.out.2.2.2.1 HZ.out.size) _).trans hb7)
      obtain ⟨o7, c7, rfl, -, -⟩ := hown7.sl0
      have HJ := Lib.hid (And.intro hown7 hbz)
      clear hown7 hb7 hbz z0 z1 z2 z3 z4
      obtain ⟨k1, hkl⟩ : ∃ k1, (List.map (entI l) done ++ [x]).length = k1 := ⟨_, rfl⟩
      have HK := Lib.hid hkl
      rw [hkl]
      clear hkl hm2
      go_wp2_with fail
      obtain ⟨g1, g2, g3, g4, g5, g6, g7, g8, g9, g10⟩ := HG.out
      have hk1 : k1 = m + 1 := by rw [← HK.out, List.length_append, List.length_map, g9]; rfl
      refine ⟨⟨done ++ [e], seen.push e.2.2, ?_, (HJ.out.2.block _ (Nat.lt_succ_self _)).trans g5, g2, g3.trans (HJ.out.2.mono (Nat.le_succ _)), Nat.le_trans g4 HJ.out.2.size⟩, ?_⟩
      · rw [g6, ← HK.out]; exact HJ.out.1
      · show es.length - k1 < es.length - m
        omega
end Go.Proofs.Ytlkbaplfffbmkaa
/- capa.All; the reference's Same. -/
namespace Go.Proofs.Ytlkbaplfffbmkaa
open Go.RowKit

/-- what an interface carries -/
def cyOf (S : Int → Option Cy) (x : If) : Cy := (S x.id).getD (cy0 x)
theorem cget_of {l : List If} (hg : Good l) {x : If} (hx : x ∈ l) (S : Int → Option Cy) : CGet (hdOf l) S x.id = if true then some (cyOf S x) else none := by
  unfold CGet; rw [get_of hg hx]; rfl
theorem okId {l : List If} (hg : Good l) {x : If} (hx : x ∈ l) : IN.ok x.id := by
  have := okI_iff.1 (hg.ok x hx)
  exact wfI (by omega)
theorem call_nil (w : World) : Calls Try.prog 32 #[.pointer none] w fun e w' => e = .returned (.slice none 0 0) ∧ Below w.heap.size w w' := by
  go_enter Try.func32, Try.ntmps32
  go_wp2_with fail
  refine (made_nil _).mono ?_
  rintro e W1 ⟨rfl, rfl⟩
  go_wp2_with fail
  go_ret
  exact ⟨rfl, Below.refl _ _⟩
set_option maxRecDepth 100000 in
set_option maxHeartbeats 2000000 in
theorem callC_any {w0 w : World} {c bm h : Nat} {l : List If} {S : Int → Option Cy} (H : CapAt w0 w c bm h (hdOf l) S) (hg : Good l) : Calls Try.prog 32 #[.pointer (some ⟨c, 0, none⟩)] w fun e w' => ∃ v, e = .returned v ∧ RCy.Own w' w.heap.size v ((sortI l).map (cyOf S)) ∧ Below w.heap.size w w' := by
  have HM := Lib.hid (made_any H)
  have c0 : w.cell? ⟨c, 0, none⟩ = some (.pointer (some ⟨h, 0, none⟩)) := by
    obtain ⟨clk, es, cs, h1, h2, -⟩ := H.out
    exact cell_of h1 h2
  have HC := Lib.hid H
  have HG := Lib.hid hg
  have HN := Lib.hid hg.len
  clear H hg
  go_enter Try.func32, Try.ntmps32
  go_wp2_with fail
  refine HM.out.mono ?_
  rintro e W1 ⟨rfl, hw⟩
  subst hw
  go_wp2_with fail
  refine (all_any HC.out.hops HG.out).mono ?_
  rintro e W2 ⟨v4, rfl, hown4, hb4⟩
  obtain ⟨n, hn⟩ : ∃ n, (sortI l).length = n := ⟨_, rfl⟩
  have hn2 : n ≤ 256 := by rw [← hn, sortI_length]; exact HN.out
  obtain ⟨a4, c4, rfl, hsl4, -⟩ := hown4.sl0
  rw [hn] at hsl4 ⊢
  have hmem : ∀ i, i < n → (sortI l).getD i default ∈ l := fun i hi => sortI_mem.1 (getD_mem (by omega))
  have F0 := Lib.hid (And.intro hb4 (And.intro hsl4 (HC.out.keep hb4)))
  have HS := Lib.hid (And.intro hn hmem)
  have hmax : n ≤ maxLen := by unfold maxLen; omega
  clear hown4 hb4 hsl4 hn hmem c0 HM HC HN
  go_wp2_with fail
  go_loopw [17, 3] (fun iv ov wr => ∃ i : Nat, i ≤ n ∧ iv = .int .i64 i ∧ RCy.Own wr W2.heap.size ov (((sortI l).take i).map (cyOf S)) ∧ Below W2.heap.size W2 wr) (fun iv _ _ => n - (intOf iv).toNat)
  case atStart => exact ⟨0, Nat.zero_le _, rfl, Rep.Own.nil _ _, Below.refl _ _⟩
  case round =>
    obtain ⟨i, hi, rfl, hown, hb⟩ := hrel
    obtain ⟨w2, rfl⟩ : ∃ w2 : World, w2 = wr := ⟨_, rfl⟩
    by_cases hlt : i < n
    · have hil : ((i : Int) < (n : Int)) = True := by simp; omega
      have hi0 : ((0 : Int) ≤ (i : Int)) = True := by simp
      have hw3 := wrapS hlt hmax
      have hbs := hb.size
      obtain ⟨b, o, rfl, hbb, hat⟩ := (F0.out.2.1.keep hb).at hlt
      have hxm := HS.out.2 i hlt
      have y0 := hat 0 (by decide)
      have y1 := hat 1 (by decide)
      have y2 := hat 2 (by decide)
      have y3 := hat 3 (by decide)
      have y4 := hat 4 (by decide)
      simp only [RIf, Nat.add_zero, List.getElem?_cons_zero, List.getElem?_cons_succ] at y0 y1 y2 y3 y4
      have t1 := take_map_succ (cyOf S) (sortI l) (i := i) (by rw [HS.out.1]; exact hlt)
      have hml : (((sortI l).take i).map (cyOf S)).length = i := by rw [List.length_map, List.length_take, HS.out.1]; omega
      generalize (sortI l).getD i default = x at *
      have hal := (Below.refl w2.heap.size w2).alloc (Nat.le_refl _) (.cells #[.int .i64 x.id, .int .i64 x.r, .int .u32 (x.ad : Int), .int .i64 x.ln, .int .i64 x.cp] 34)
      have hxs : IfS w2.heap.size x (w2.alloc (.cells #[.int .i64 x.id, .int .i64 x.r, .int .u32 (x.ad : Int), .int .i64 x.ln, .int .i64 x.cp] 34)) := hnew _ _
      have F1 := Lib.hid (And.intro (bcall hb (Nat.le_refl _) hal) (And.intro (hown.below hal) (And.intro t1 (And.intro hml (And.intro (okId HG.out hxm) (cget_of HG.out hxm S))))))
      obtain ⟨x0, x1, x2, x3, x4⟩ := hxs.cells
      clear hat hbb hown hb hal hxs t1 hml hxm
      go_wp2_with fail
      clear y0 y1 y2 y3 y4
      generalize w2.alloc (.cells #[.int .i64 x.id, .int .i64 x.r, .int .u32 (x.ad : Int), .int .i64 x.ln, .int .i64 x.cp] 34) = W3 at *
      generalize w2.heap.size = q2 at *
      refine (get_any (F0.out.2.2.keep F1.out.1) F1.out.2.2.2.2.1 (cyOf S x) true F1.out.2.2.2.2.2 (fun h => by cases h)).mono ?_
      rintro e W4 ⟨rfl, hb4⟩
      have F2 := Lib.hid (And.intro (bcall F1.out.1 (Nat.le_refl _) hb4) (And.intro (F1.out.2.1.below hb4) (And.intro F1.out.2.2.1 F1.out.2.2.2.1)))
      clear F1 hb4 x0 x1 x2 x3 x4
      generalize cyOf S x = y at *
      unfold Cy.v
      have hal := (Below.refl W4.heap.size W4).alloc (Nat.le_refl _) (.cells #[.int .i64 y.id, .int .i64 y.cp, .bool y.dr] 69)
      have hys : CyS W4.heap.size y (W4.alloc (.cells #[.int .i64 y.id, .int .i64 y.cp, .bool y.dr] 69)) := hnew _ _
      have F3 := Lib.hid (And.intro (bcall F2.out.1 (Nat.le_refl _) hal) (And.intro (F2.out.2.1.below hal) F2.out.2.2))
      obtain ⟨x0, x1, x2⟩ := hys.cells
      clear F2 hal hys
      go_wp2_with (at_builtin; refine halt ?_)
      refine Halted.go ?_
      have hal := (Below.refl (W4.alloc (.cells #[.int .i64 y.id, .int .i64 y.cp, .bool y.dr] 69)).heap.size (W4.alloc (.cells #[.int .i64 y.id, .int .i64 y.cp, .bool y.dr] 69))).alloc (Nat.le_refl _) (.cells #[.int .i64 y.id, .int .i64 y.cp, .bool y.dr] 69)
      refine Rep.append_one T64 rfl _ _ rfl rfl (F3.out.2.1.below hal) y _ 1 rfl (hnewAt (by simp)) (n := i) F3.out.2.2.2 (by unfold maxLen; omega) (by show (i + 1) * 24 ≤ _; omega) (by have := F3.out.1.size; have := hal.size; omega) ?_
      intro v6 w6 hown6 hb6 _
      rw [← F3.out.2.2.1] at hown6
      obtain ⟨a6, c6, rfl, -, -⟩ := hown6.sl0
      have hl6 : (((sortI l).take (i + 1)).map (cyOf S)).length = i + 1 := by rw [List.length_map, List.length_take, HS.out.1]; omega
      rw [hl6] at hown6 ⊢
      have F4 := Lib.hid (And.intro hown6 (F3.out.1.trans ((hal.mono F3.out.1.size).trans hb6)))
      clear hown6 hb6 F3 hal hl6 x0 x1 x2
      go_wp2_with fail
      exact ⟨⟨i + 1, hlt, by first | rw [hw3] | rw [Int.natCast_succ], F4.out⟩, by first | (rw [hw3]; exact mSucc hlt) | (rw [← Int.natCast_succ]; exact mSucc hlt)⟩
    · obtain rfl : n = i := by omega
      have hil : ((n : Int) < (n : Int)) = False := by simp
      rw [List.take_of_length_le (by rw [HS.out.1]; exact Nat.le_refl _)] at hown
      have G := Lib.hid (And.intro (hown.mono F0.out.1.size) (F0.out.1.trans (hb.mono F0.out.1.size)))
      clear hown hb
      go_wp2_with fail
      go_ret
      exact ⟨_, rfl, G.out⟩
set_option maxRecDepth 100000 in
theorem rsameC {w : World} {oa ob : Option Addr} {n ca cb : Nat} {l : List Cy} (h1 : RCy.Sl w oa n ca l) (h2 : RCy.Sl w ob n cb l) : Calls Try.prog 31 #[.slice oa n ca, .slice ob n cb] w fun e w' => e = .returned (.bool true) ∧ Below w.heap.size w w' := by
  have hmax := h1.max
  have F := Lib.hid (And.intro h1 h2)
  clear h1 h2
  go_enter Try.func31, Try.ntmps31
  go_wp2_with fail
  go_loopw [5] (fun iv wr => ∃ i : Nat, i ≤ n ∧ iv = .int .i64 i ∧ Below w.heap.size w wr) (fun iv _ => n - (intOf iv).toNat)
  case atStart => exact ⟨0, Nat.zero_le _, rfl, Below.refl _ _⟩
  case round =>
    obtain ⟨i, hi, rfl, hb⟩ := hrel
    obtain ⟨w2, rfl⟩ : ∃ w2 : World, w2 = wr := ⟨_, rfl⟩
    by_cases hlt : i < n
    · have hil : ((i : Int) < (n : Int)) = True := by simp; omega
      have hi0 : ((0 : Int) ≤ (i : Int)) = True := by simp
      have hw3 := wrapS hlt hmax
      obtain ⟨b0, o0, rfl, hbb, hat⟩ := (F.out.1.keep hb).at hlt
      obtain ⟨b1, o1, rfl, hbb1, hat1⟩ := (F.out.2.keep hb).at hlt
      generalize l.getD i default = x at *
      have c0 := hat 0 (by decide)
      have c1 := hat 1 (by decide)
      have c2 := hat 2 (by decide)
      have d0 := hat1 0 (by decide)
      have d1 := hat1 1 (by decide)
      have d2 := hat1 2 (by decide)
      simp only [RCy, Nat.add_zero, List.getElem?_cons_zero, List.getElem?_cons_succ] at c0 c1 c2 d0 d1 d2
      have HB := Lib.hid hb.drew
      clear hb hat hat1 hbb hbb1
      go_wp2_with fail
      refine wp_region_quiet_tail (fun w' => w' = w2.drew) 8 (by kernel_rfl) (by kernel_rfl) rfl ?_
      simp only [List.take_succ_cons, List.take_zero, List.drop_succ_cons, List.drop_zero]
      iterate 8 ((with_reducible refine wpQuiet_step (fun K hK => ?_)); go_simp; first | ((with_reducible refine hK _ ?_); clear hK K) | (apply Exists.intro; (with_reducible refine ⟨fun w' hw' => ?_, hK _ ?_⟩); (subst hw'; first | (go_simp; first | exact rfl | exact ⟨rfl, rfl⟩) | exact rfl | exact ⟨rfl, rfl⟩); clear hK K))
      refine wpQuiet_nil ?_
      rintro _ rfl
      go_wp2_with fail
      exact ⟨⟨i + 1, hlt, by first | rw [hw3] | rw [Int.natCast_succ], HB.out⟩, by first | (rw [hw3]; exact mSucc hlt) | (rw [← Int.natCast_succ]; exact mSucc hlt)⟩
    · obtain rfl : n = i := by omega
      have hil : ((n : Int) < (n : Int)) = False := by simp
      have HB := Lib.hid hb
      clear hb
      go_wp2_with fail
      go_ret
      exact ⟨rfl, HB.out⟩
end Go.Proofs.Ytlkbaplfffbmkaa
/- The plain law: capa's state and the reference's go together. -/
namespace Go.Proofs.Ytlkbaplfffbmkaa
open Go.RowKit

def SOk (S : Int → Option Cy) : Prop := ∀ id y, S id = some y → y.id = id ∧ okC y = true
def StEq (T : Nat → Int × Int × Bool) (Sq At : Nat → Int) : Prop := ∀ i, i < 16 → ((T i).2.2 = false ∧ (T i).2.1 = 0 ∧ Sq i = -1) ∨ ((T i).2.2 = true ∧ (T i).1 = Sq i ∧ 0 ≤ Sq i ∧ (T i).2.1 = At i)
def LS (l : List If) (S : Int → Option Cy) : List Cy := (sortI l).map (cyOf S)
theorem SOk.none : SOk (fun _ => none) := fun _ _ h => by cases h
theorem StEq.none : StEq (fun _ => (0, 0, false)) (fun _ => -1) (fun _ => 0) := fun _ _ => .inl ⟨rfl, rfl, rfl⟩
theorem LS_none (l : List If) : LS l (fun _ => none) = (sortI l).map cy0 := rfl
theorem LS_len (l : List If) (S : Int → Option Cy) : (LS l S).length = l.length := by unfold LS; rw [List.length_map, sortI_length]
theorem cyOf_id {S : Int → Option Cy} (hS : SOk S) (x : If) : (cyOf S x).id = x.id := by
  unfold cyOf
  cases h : S x.id with
  | none => rfl
  | some y => exact (hS _ _ h).1
theorem okC_iff {y : Cy} : okC y = true ↔ (0 ≤ y.id ∧ y.id ≤ 4294967295) ∧ 0 ≤ y.cp ∧ y.cp ≤ 9007199254740991 := by simp [okC, and_assoc]
theorem cyOf_cp {l : List If} (hg : Good l) {S : Int → Option Cy} (hS : SOk S) {x : If} (hx : x ∈ l) : CpOk (cyOf S x) := by
  unfold cyOf
  cases h : S x.id with
  | none => exact (okI_iff.1 (hg.ok x hx)).2.2.2.2.2
  | some y => exact (okC_iff.1 (hS _ _ h).2).2
theorem LS_ids {l : List If} {S : Int → Option Cy} (hS : SOk S) : (LS l S).map Cy.id = (sortI l).map If.id := by
  unfold LS; rw [List.map_map]; exact List.map_congr_left fun x _ => cyOf_id hS x
theorem LS_mem {l : List If} {S : Int → Option Cy} {y : Cy} : y ∈ LS l S ↔ ∃ x ∈ l, cyOf S x = y := by
  unfold LS; rw [List.mem_map]; constructor
  · rintro ⟨x, hx, e⟩; exact ⟨x, sortI_mem.1 hx, e⟩
  · rintro ⟨x, hx, e⟩; exact ⟨x, sortI_mem.2 hx, e⟩
theorem LS_get {l : List If} {S : Int → Option Cy} {k : Nat} (hk : k < l.length) : (LS l S).getD k default = cyOf S ((sortI l).getD k default) := by
  have h : k < (sortI l).length := by rw [sortI_length]; exact hk
  unfold LS
  simp [List.getD_eq_getElem?_getD, h]
theorem sort_inj {l : List If} (hg : Good l) {i k : Nat} (hi : i < l.length) (hk : k < l.length) (h : ((sortI l).getD i default).id = ((sortI l).getD k default).id) : i = k := by
  have hp := sortI_sorted hg.ndid
  have hi' : i < (sortI l).length := by rw [sortI_length]; exact hi
  have hk' : k < (sortI l).length := by rw [sortI_length]; exact hk
  simp only [List.getD_eq_getElem?_getD, List.getElem?_eq_getElem hi', List.getElem?_eq_getElem hk', Option.getD_some] at h
  rw [List.pairwise_iff_getElem] at hp
  rcases Nat.lt_trichotomy i k with c | c | c
  · have := hp i k hi' hk' c; omega
  · exact c
  · have := hp k i hk' hi' c; omega
theorem pos_is {l : List If} (hg : Good l) {S : Int → Option Cy} (hS : SOk S) {k : Nat} (hk : k < l.length) : posN (LS l S) ((sortI l).getD k default).id = (k : Nat) := by
  refine pos_some (by rw [LS_len]; exact hk) (by rw [LS_get hk, cyOf_id hS]) fun j hj e => ?_
  rw [LS_get (by omega), cyOf_id hS] at e
  have := sort_inj hg (by omega) hk e
  omega
theorem pos_mem {l : List If} {S : Int → Option Cy} (hS : SOk S) {id : Int} (h : 0 ≤ posN (LS l S) id) : ∃ k, k < l.length ∧ posN (LS l S) id = (k : Nat) ∧ ((sortI l).getD k default).id = id := by
  rcases pos_cases (LS l S) id with ⟨h1, -⟩ | ⟨k, h1, h2, h3⟩
  · omega
  · rw [LS_len] at h2
    rw [LS_get h2, cyOf_id hS] at h3
    exact ⟨k, h2, h1, h3⟩
theorem mem_pos {l : List If} (hg : Good l) {S : Int → Option Cy} (hS : SOk S) {x : If} (hx : x ∈ l) : ∃ k, k < l.length ∧ (sortI l).getD k default = x ∧ posN (LS l S) x.id = (k : Nat) := by
  obtain ⟨k, hk, e⟩ := List.mem_iff_getElem.1 (sortI_mem.2 hx)
  have hk2 : k < l.length := by rw [← sortI_length]; exact hk
  have e2 : (sortI l).getD k default = x := by rw [List.getD_eq_getElem?_getD, List.getElem?_eq_getElem hk]; exact e
  exact ⟨k, hk2, e2, by rw [← e2]; exact pos_is hg hS hk2⟩
theorem getL_of {l : List If} (hg : Good l) {S : Int → Option Cy} (hS : SOk S) {x : If} (hx : x ∈ l) : getL (LS l S) x.id = if true then some (cyOf S x) else none := by
  obtain ⟨k, hk, e, hp⟩ := mem_pos hg hS hx
  unfold getL
  rw [hp, if_pos (by omega), if_pos rfl]
  show some ((LS l S).getD k default) = _
  rw [LS_get hk, e]
theorem found_is {l : List If} (hg : Good l) {S : Int → Option Cy} (hS : SOk S) (M : List Cy) : allIn (hdOf l) M = found (LS l S) M := by
  unfold allIn found
  congr 1
  funext y
  by_cases h : 0 ≤ posN (LS l S) y.id
  · rw [decide_eq_true h]
    obtain ⟨k, hk, -, e⟩ := pos_mem hS h
    rw [← e, get_of hg (sortI_mem.1 (getD_mem (by rw [sortI_length]; exact hk)))]
    rfl
  · rw [decide_eq_false h]
    cases hd : (hdOf l).get y.id with
    | none => rfl
    | some x =>
      obtain ⟨h1, h2⟩ := get_mem hd
      obtain ⟨k, hk, -, hp⟩ := mem_pos hg hS h1
      rw [h2] at hp
      omega
theorem say_ok {S : Int → Option Cy} (hS : SOk S) {y : Cy} (hy : okC y = true) : SOk (say S y) := fun id z h => by
  unfold say at h
  split at h
  · rename_i e; injection h with h; subst h; exact ⟨e.symm, hy⟩
  · exact hS _ _ h
theorem setOne_is {l : List If} (hg : Good l) {S : Int → Option Cy} (hS : SOk S) {y : Cy} (h : 0 ≤ posN (LS l S) y.id) : setOne (LS l S) y = LS l (say S y) := by
  obtain ⟨k, hk, hp, e⟩ := pos_mem hS h
  unfold setOne
  rw [hp, Int.toNat_natCast]
  apply List.ext_getElem
  · rw [List.length_set, LS_len, LS_len]
  intro i h1 h2
  have hi : i < l.length := by rw [LS_len] at h2; exact h2
  have g1 : ((LS l S).set k y)[i] = if i = k then y else (LS l S).getD i default := by
    rw [List.getElem_set]
    by_cases c : k = i
    · rw [if_pos c, if_pos c.symm]
    · rw [if_neg c, if_neg (Ne.symm c)]
      simp [List.getD_eq_getElem?_getD, show i < (LS l S).length by rw [LS_len]; exact hi]
  have g2 : (LS l (say S y))[i] = (LS l (say S y)).getD i default := by simp [List.getD_eq_getElem?_getD, h2]
  rw [g1, g2, LS_get hi, LS_get hi]
  by_cases c : i = k
  · subst c
    rw [if_pos rfl]
    unfold cyOf say
    rw [if_pos e]; rfl
  · rw [if_neg c]
    have : ((sortI l).getD i default).id ≠ y.id := fun h' => c (sort_inj hg hi hk (h'.trans e.symm))
    unfold cyOf say
    rw [if_neg this]
theorem setCs_is {l : List If} (hg : Good l) : ∀ (M : List Cy) {S : Int → Option Cy}, SOk S → found (LS l S) M = true → M.all okC = true → setCs (LS l S) M = LS l (sayAll S M) ∧ SOk (sayAll S M)
  | [], S, hS, _, _ => ⟨rfl, hS⟩
  | y :: M, S, hS, hf, ho => by
    rw [List.all_cons, Bool.and_eq_true] at ho
    have hf' := hf
    unfold found at hf'
    rw [List.all_cons, Bool.and_eq_true] at hf'
    have h0 : 0 ≤ posN (LS l S) y.id := by simpa using hf'.1
    have h1 := setOne_is hg hS h0
    have hS' := say_ok hS ho.1
    have hids : (LS l (say S y)).map Cy.id = (LS l S).map Cy.id := by rw [LS_ids hS', LS_ids hS]
    have := setCs_is hg M hS' (by
      unfold found
      rw [← hf'.2]
      congr 1
      funext z
      rw [pos_map hids]) ho.2
    refine ⟨?_, this.2⟩
    show setCs (setOne (LS l S) y) M = _
    rw [h1]; exact this.1
theorem old_is {T : Nat → Int × Int × Bool} {Sq At : Nat → Int} (h : StEq T Sq At) {s : Nat} (hs : s < 16) {seq : Int} (h0 : 0 ≤ seq) : oldT T s seq = decide (seq ≤ Sq s) := by
  unfold oldT
  rcases h s hs with ⟨h1, -, h3⟩ | ⟨h1, h2, -, -⟩
  · rw [h1, h3]; simp; omega
  · rw [h1, h2]; simp
theorem okCs_parts {src seq : Int} {L : List Cy} (h : okCs src seq L = true) : 0 ≤ src ∧ src ≤ 15 ∧ 0 ≤ seq ∧ L.all okC = true := by
  unfold okCs at h
  simp only [Bool.and_eq_true, decide_eq_true_eq] at h
  exact ⟨h.1.1.1.1.1, h.1.1.1.1.2, h.1.1.1.2.1, h.2⟩
theorem take_is {l : List If} (hg : Good l) {S : Int → Option Cy} (hS : SOk S) {T : Nat → Int × Int × Bool} {Sq At : Nat → Int} (h : StEq T Sq At) (src seq now : Int) (M : List Cy) : takeE (hdOf l) T src seq now M = rtakeE (LS l S) Sq src seq now M := by
  unfold takeE rtakeE nowOk
  cases ho : okCs src seq M with
  | false => rfl
  | true =>
    obtain ⟨h1, h2, h3, -⟩ := okCs_parts ho
    rw [found_is hg hS, old_is h (by omega) h3]
    simp only [decide_eq_true_eq]
theorem took_is {l : List If} (hg : Good l) {S : Int → Option Cy} (hS : SOk S) {T : Nat → Int × Int × Bool} {Sq At : Nat → Int} (h : StEq T Sq At) {src seq now : Int} {M : List Cy} (h0 : takeE (hdOf l) T src seq now M = 0) :
    setCs (LS l S) M = LS l (sayAll S M) ∧ SOk (sayAll S M) ∧ StEq (setT T src.toNat (seq, now, true)) (fun i => if i = src.toNat then seq else Sq i) (fun i => if i = src.toNat then now else At i) := by
  unfold takeE at h0
  cases ho : okCs src seq M with
  | false => rw [ho] at h0; simp at h0
  | true =>
    obtain ⟨h1, h2, h3, h4⟩ := okCs_parts ho
    rw [ho] at h0
    have hf : allIn (hdOf l) M = true := by
      cases ha : allIn (hdOf l) M with
      | true => rfl
      | false => rw [ha] at h0; split at h0 <;> simp at h0
    rw [found_is hg hS] at hf
    obtain ⟨e1, e2⟩ := setCs_is hg M hS hf h4
    refine ⟨e1, e2, fun i hi => ?_⟩
    unfold setT
    dsimp only
    by_cases c : i = src.toNat
    · rw [if_pos c, if_pos c, if_pos c]; exact .inr ⟨rfl, rfl, h3, rfl⟩
    · rw [if_neg c, if_neg c, if_neg c]; exact h i hi
theorem st_is {T : Nat → Int × Int × Bool} {Sq At : Nat → Int} (h : StEq T Sq At) (s : Int) : stO T s = rstO Sq At s := by
  unfold stO rstO
  split
  · rename_i hs
    rcases h s.toNat (by omega) with ⟨h1, h2, h3⟩ | ⟨h1, -, h3, h4⟩
    · rw [h1, h2, h3]; rfl
    · rw [h1, h4, if_neg (by omega)]
  · rfl
end Go.Proofs.Ytlkbaplfffbmkaa
/- Of a next hop: the longest of those that hold it; by definition and by tries. -/
namespace Go.Proofs.Ytlkbaplfffbmkaa
open Go.RowKit

/-- the first of those that are best -/
def bstG (p : Nat → Bool) (f : Nat → Int) : Nat → Option Nat
  | 0 => none
  | i + 1 => match bstG p f i with
    | none => if p i then some i else none
    | some k => if p i && decide (f k < f i) then some i else some k
theorem bstG_spec {p : Nat → Bool} {f : Nat → Int} : ∀ i, (∀ j, bstG p f i = some j → j < i ∧ p j = true ∧ ∀ q, q < i → p q = true → f q ≤ f j) ∧ (bstG p f i = none → ∀ q, q < i → p q = false)
  | 0 => ⟨fun _ h => (by cases h), fun _ q h => (by omega)⟩
  | i + 1 => by
    obtain ⟨ih1, ih2⟩ := bstG_spec (p := p) (f := f) i
    rw [bstG]
    cases hb : bstG p f i with
    | none =>
      have ih2 := ih2 hb
      dsimp only
      cases hh : p i with
      | false =>
        refine ⟨fun j h => (by cases h), fun _ q hq => ?_⟩
        rcases Nat.lt_succ_iff_lt_or_eq.1 hq with h | rfl
        · exact ih2 q h
        · exact hh
      | true =>
        refine ⟨fun j h => ?_, fun h => by cases h⟩
        rw [if_pos rfl] at h
        injection h with h
        subst h
        refine ⟨by omega, hh, fun q hq h2 => ?_⟩
        rcases Nat.lt_succ_iff_lt_or_eq.1 hq with h | rfl
        · rw [ih2 q h] at h2; cases h2
        · exact Int.le_refl _
    | some k =>
      obtain ⟨k1, k2, k3⟩ := ih1 k hb
      dsimp only
      by_cases hc : p i = true ∧ f k < f i
      · rw [if_pos (by rw [hc.1, Bool.true_and]; exact decide_eq_true hc.2)]
        refine ⟨fun j h => ?_, fun h => by cases h⟩
        injection h with h
        subst h
        refine ⟨by omega, hc.1, fun q hq h2 => ?_⟩
        rcases Nat.lt_succ_iff_lt_or_eq.1 hq with h | rfl
        · have := k3 q h h2; have := hc.2; omega
        · exact Int.le_refl _
      · rw [if_neg (by simpa using fun h1 => by simpa using fun h2 => hc ⟨h1, h2⟩)]
        refine ⟨fun j h => ?_, fun h => by cases h⟩
        injection h with h
        subst h
        refine ⟨by omega, k2, fun q hq h2 => ?_⟩
        rcases Nat.lt_succ_iff_lt_or_eq.1 hq with h | rfl
        · exact k3 q h h2
        · have : ¬ f k < f q := fun h => hc ⟨h2, h⟩
          omega
/-- may this interface take what goes to a from this router? -/
def hits (ρ : Int) (a : Nat) (x : If) : Bool := decide (x.r = ρ) && holdsP x.ad x.ln a
def refFind (l : List If) (ρ : Int) (a : Nat) : Option Nat := bstG (fun i => hits ρ a (l.getD i default)) (fun i => (l.getD i default).ln) l.length
theorem hdOf_M (l : List If) (ρ ad d : Nat) : (hdOf l).M ρ ad d = (l.reverse.find? fun x => decide (x.r.toNat = ρ ∧ x.ad = ad ∧ x.ln.toNat = d)).map If.id := by
  have h : ∀ (l : List If) (D : HD), (l.foldl HD.add D).M ρ ad d = ((l.reverse.find? fun x => decide (x.r.toNat = ρ ∧ x.ad = ad ∧ x.ln.toNat = d)).map If.id).or (D.M ρ ad d) := by
    intro l
    induction l with
    | nil => intro D; rfl
    | cons x r ih =>
      intro D
      rw [List.foldl_cons, ih, List.reverse_cons, List.find?_append]
      cases hf : r.reverse.find? fun x => decide (x.r.toNat = ρ ∧ x.ad = ad ∧ x.ln.toNat = d) with
      | some y => rfl
      | none =>
        rw [Option.none_or, Option.map_none, Option.none_or]
        by_cases hx : x.r.toNat = ρ ∧ x.ad = ad ∧ x.ln.toNat = d
        · obtain ⟨rfl, rfl, rfl⟩ := hx
          simp [HD.add, upd]
        · rw [List.find?_singleton, if_neg (by simpa using hx)]
          rw [Option.map_none, Option.none_or]
          unfold HD.add
          dsimp only
          split
          · rename_i hr
            unfold upd
            rw [if_neg (fun h => hx ⟨hr.symm, h.1.symm, h.2.symm⟩)]
          · rfl
  have := h l hd0
  rw [show hd0.M ρ ad d = none from rfl, Option.or_none] at this
  exact this
theorem Good.net_inj {l : List If} (h : Good l) {x y : If} (hx : x ∈ l) (hy : y ∈ l) (h1 : x.r = y.r) (h2 : x.ad = y.ad) (h3 : x.ln = y.ln) : x = y := by
  have hn : (l.map If.net).Nodup := nodup_get.2 fun k i hk hi he => by
    unfold If.net at he
    injection he with a b c
    exact h.nets k i hk hi a (by omega) c
  exact MR.inj_of_nodup hn hx hy (by unfold If.net; rw [h1, h2, h3])
theorem M_some {l : List If} (h : Good l) {ρ ad d : Nat} {v : Int} (hv : (hdOf l).M ρ ad d = some v) : ∃ x ∈ l, x.r = (ρ : Int) ∧ x.ad = ad ∧ x.ln = (d : Int) ∧ x.id = v := by
  rw [hdOf_M] at hv
  simp only [Option.map_eq_some_iff] at hv
  obtain ⟨x, hx, rfl⟩ := hv
  have h1 := List.find?_some hx
  have h2 : x ∈ l := by simpa using List.mem_of_find?_eq_some hx
  have h3 := okI_iff.1 (h.ok x h2)
  have h4 := okP_iff.1 h3.2.2.2.2.1
  simp only [decide_eq_true_eq] at h1
  exact ⟨x, h2, by omega, h1.2.1, by omega, rfl⟩
theorem M_in {l : List If} (h : Good l) {x : If} (hx : x ∈ l) : (hdOf l).M x.r.toNat x.ad x.ln.toNat = some x.id := by
  cases hv : (hdOf l).M x.r.toNat x.ad x.ln.toNat with
  | none =>
    rw [hdOf_M] at hv
    simp only [Option.map_eq_none_iff, List.find?_eq_none] at hv
    have := hv x (by simpa using hx)
    simp at this
  | some v =>
    obtain ⟨y, hy, h1, h2, h3, h4⟩ := M_some h hv
    have ha := okI_iff.1 (h.ok x hx)
    have hb := okP_iff.1 ha.2.2.2.2.1
    have : y = x := h.net_inj hy hx (by omega) h2 (by omega)
    rw [← h4, this]
theorem hits_iff {ρ : Int} {a : Nat} {x : If} : hits ρ a x = true ↔ x.r = ρ ∧ okP x.ad x.ln = true ∧ pcut a x.ln.toNat = x.ad := by
  unfold hits holdsP
  simp
theorem lngS_spec {M : Nat → Nat → Option Int} {a : Nat} : ∀ i, (∀ j, lng M a i = some j → j < i ∧ (M (pcut a j) j).isSome ∧ ∀ q, j < q → q < i → M (pcut a q) q = none) ∧ (lng M a i = none → ∀ q, q < i → M (pcut a q) q = none)
  | 0 => ⟨fun _ h => (by cases h), fun _ q h => (by omega)⟩
  | i + 1 => by
    obtain ⟨ih1, ih2⟩ := lngS_spec (M := M) (a := a) i
    rw [lng]
    by_cases hs : (M (pcut a i) i).isSome = true
    · rw [if_pos hs]
      refine ⟨fun j h => ?_, fun h => by cases h⟩
      injection h with h
      subst h
      exact ⟨by omega, hs, fun q h1 h2 => by omega⟩
    · rw [if_neg hs]
      have hn : M (pcut a i) i = none := by cases h : M (pcut a i) i with | none => rfl | some x => rw [h] at hs; exact absurd rfl hs
      refine ⟨fun j h => ?_, fun h q hq => ?_⟩
      · obtain ⟨h1, h2, h3⟩ := ih1 j h
        refine ⟨by omega, h2, fun q h4 h5 => ?_⟩
        rcases Nat.lt_succ_iff_lt_or_eq.1 h5 with h6 | rfl
        · exact h3 q h4 h6
        · exact hn
      · rcases Nat.lt_succ_iff_lt_or_eq.1 hq with h6 | rfl
        · exact ih2 h q h6
        · exact hn
theorem find_none {l : List If} (h : Good l) {ρ a : Nat} (hf : (hdOf l).find ρ a = none) : ∀ y ∈ l, hits ρ a y = false := by
  intro y hy
  rw [Bool.eq_false_iff]
  intro hh
  obtain ⟨h1, h2, h3⟩ := hits_iff.1 hh
  have h4 := okP_iff.1 h2
  have hM := M_in h hy
  obtain ⟨l1, l2⟩ := lngS_spec (M := (hdOf l).M ρ) (a := a) 33
  unfold HD.find at hf
  cases hl : lng ((hdOf l).M ρ) a 33 with
  | none =>
    have := l2 hl y.ln.toNat (by omega)
    rw [h3, show ρ = y.r.toNat by omega, hM] at this
    cases this
  | some j =>
    rw [hl] at hf
    dsimp only at hf
    obtain ⟨-, m1, -⟩ := l1 j hl
    obtain ⟨v, hv⟩ := Option.isSome_iff_exists.1 m1
    obtain ⟨x, hx, -, -, -, rfl⟩ := M_some h hv
    rw [hv, Option.getD_some, get_of h hx] at hf
    cases hf
theorem find_some {l : List If} (h : Good l) {ρ a : Nat} {x : If} (hf : (hdOf l).find ρ a = some x) : x ∈ l ∧ hits ρ a x = true ∧ ∀ y ∈ l, hits ρ a y = true → y.ln ≤ x.ln := by
  obtain ⟨l1, l2⟩ := lngS_spec (M := (hdOf l).M ρ) (a := a) 33
  unfold HD.find at hf
  cases hl : lng ((hdOf l).M ρ) a 33 with
  | none => rw [hl] at hf; cases hf
  | some j =>
    rw [hl] at hf
    dsimp only at hf
    obtain ⟨m0, m1, m2⟩ := l1 j hl
    obtain ⟨v, hv⟩ := Option.isSome_iff_exists.1 m1
    obtain ⟨y, hy, k1, k2, k3, rfl⟩ := M_some h hv
    rw [hv, Option.getD_some, get_of h hy] at hf
    injection hf with hf
    subst hf
    have hok := (okI_iff.1 (h.ok y hy)).2.2.2.2.1
    refine ⟨hy, hits_iff.2 ⟨k1, hok, by rw [k3, Int.toNat_natCast]; exact k2.symm⟩, fun z hz hh => ?_⟩
    obtain ⟨z1, z2, z3⟩ := hits_iff.1 hh
    have z4 := okP_iff.1 z2
    have hM := M_in h hz
    by_cases hlt : (j : Int) < z.ln
    · have := m2 z.ln.toNat (by omega) (by omega)
      rw [z3, show ρ = z.r.toNat by omega, hM] at this
      cases this
    · omega
theorem hits_inj {l : List If} (h : Good l) {ρ : Int} {a : Nat} {x y : If} (hx : x ∈ l) (hy : y ∈ l) (h1 : hits ρ a x = true) (h2 : hits ρ a y = true) (h3 : x.ln = y.ln) : x = y := by
  obtain ⟨a1, a2, a3⟩ := hits_iff.1 h1
  obtain ⟨b1, b2, b3⟩ := hits_iff.1 h2
  exact h.net_inj hx hy (a1.trans b1.symm) (by rw [← a3, ← b3, h3]) h3
theorem find_is {l : List If} (h : Good l) {ρ a : Nat} {x : If} (hx : x ∈ l) (hh : hits ρ a x = true) (hm : ∀ y ∈ l, hits ρ a y = true → y.ln ≤ x.ln) : (hdOf l).find ρ a = some x := by
  cases hf : (hdOf l).find ρ a with
  | none => rw [find_none h hf x hx] at hh; cases hh
  | some y =>
    obtain ⟨h1, h2, h3⟩ := find_some h hf
    have e1 := hm y h1 h2
    have e2 := h3 x hx hh
    rw [hits_inj h h1 hx h2 hh (by omega)]
theorem find_no {l : List If} (h : Good l) {ρ a : Nat} (hm : ∀ y ∈ l, hits ρ a y = false) : (hdOf l).find ρ a = none := by
  cases hf : (hdOf l).find ρ a with
  | none => rfl
  | some y =>
    obtain ⟨h1, h2, h3⟩ := find_some h hf
    rw [hm y h1] at h2; cases h2
/-- the two answers are one -/
theorem find_ref {l : List If} (h : Good l) (ρ a : Nat) : (refFind l ρ a).map (fun j => l.getD j default) = (hdOf l).find ρ a := by
  obtain ⟨b1, b2⟩ := bstG_spec (p := fun i => hits ρ a (l.getD i default)) (f := fun i => (l.getD i default).ln) l.length
  unfold refFind
  have hin : ∀ y ∈ l, ∃ q, q < l.length ∧ l.getD q default = y := fun y hy => by
    obtain ⟨q, hq, rfl⟩ := List.mem_iff_getElem.1 hy
    exact ⟨q, hq, by rw [List.getD_eq_getElem?_getD, List.getElem?_eq_getElem hq]; rfl⟩
  cases hb : bstG (fun i => hits ρ a (l.getD i default)) (fun i => (l.getD i default).ln) l.length with
  | none =>
    refine (find_no h fun y hy => ?_).symm
    obtain ⟨q, hq, rfl⟩ := hin y hy
    exact b2 hb q hq
  | some j =>
    obtain ⟨h1, h2, h3⟩ := b1 j hb
    refine (find_is h (getD_mem h1) h2 fun y hy hh => ?_).symm
    obtain ⟨q, hq, rfl⟩ := hin y hy
    exact h3 q hq hh
theorem find_perm {l m : List If} (h : Good l) (hm : Good m) (hp : ∀ x, x ∈ l ↔ x ∈ m) (ρ a : Nat) : (hdOf l).find ρ a = (hdOf m).find ρ a := by
  cases hf : (hdOf m).find ρ a with
  | none => exact find_no h fun y hy => find_none hm hf y ((hp y).1 hy)
  | some x =>
    obtain ⟨h1, h2, h3⟩ := find_some hm hf
    exact find_is h ((hp x).2 h1) h2 fun y hy => h3 y ((hp y).1 hy)
theorem refFind_out {l : List If} (h : Good l) {ρ : Int} (a : Nat) (hρ : ρ < 0 ∨ 15 < ρ) : refFind l ρ a = none := by
  unfold refFind
  obtain ⟨b1, b2⟩ := bstG_spec (p := fun i => hits ρ a (l.getD i default)) (f := fun i => (l.getD i default).ln) l.length
  cases hb : bstG (fun i => hits ρ a (l.getD i default)) (fun i => (l.getD i default).ln) l.length with
  | none => rfl
  | some j =>
    obtain ⟨h1, h2, h3⟩ := b1 j hb
    have := okI_iff.1 (h.ok _ (getD_mem h1))
    have := (hits_iff.1 h2).1
    omega
theorem find_shorter {l : List If} {z : If} (h : Good l) (hm : Good (l ++ [z])) {ρ a : Nat} (haa : a < 4294967296) (hz : z.r = (ρ : Int)) (ha : z.ad = 0) (hl : z.ln = 0) : (∃ x, (hdOf l).find ρ a = some x ∧ (hdOf (l ++ [z])).find ρ a = some x) ∨ (hdOf l).find ρ a = none ∧ (hdOf (l ++ [z])).find ρ a = some z := by
  have hzh : hits ρ a z = true := by
    rw [hits_iff, ha, hl]
    refine ⟨hz, ?_, ?_⟩
    · decide
    · unfold pcut
      rw [show (0 : Int).toNat = 0 from rfl, show 2 ^ (32 - 0) = 4294967296 from rfl, Nat.div_eq_of_lt haa, Nat.zero_mul]
  cases hf : (hdOf l).find ρ a with
  | some x =>
    obtain ⟨h1, h2, h3⟩ := find_some h hf
    refine .inl ⟨x, rfl, find_is hm (by simp [h1]) h2 fun y hy hh => ?_⟩
    rcases List.mem_append.1 hy with hy | hy
    · exact h3 y hy hh
    · simp only [List.mem_singleton] at hy
      subst hy
      have := okP_iff.1 (hits_iff.1 h2).2.1
      omega
  | none =>
    refine .inr ⟨rfl, find_is hm (by simp) hzh fun y hy hh => ?_⟩
    rcases List.mem_append.1 hy with hy | hy
    · rw [find_none h hf y hy] at hh; cases hh
    · simp only [List.mem_singleton] at hy
      subst hy
      exact Int.le_refl _
end Go.Proofs.Ytlkbaplfffbmkaa
/- Find beyond all routers; of nobody; the reference's Find. -/
namespace Go.Proofs.Ytlkbaplfffbmkaa
open Go.RowKit

theorem len_of {w : World} {h : Nat} {l : List If} (H : HopsAt w h (hdOf l)) (hg : Good l) : Calls Try.prog 21 #[.pointer (some ⟨h, 0, none⟩)] w fun e w' => e = .returned (.int .i64 (l.length : Nat)) ∧ w' = w := by
  obtain ⟨⟨bm, clk, es, b, h1, h2, h3, h4⟩, hw⟩ := H
  have hel : es.length = l.length := by rw [← (ents_are hg h2 h3).2.length_eq, List.length_map]
  have hl3 := fun ty => MR.run_len IN h2 Try.underlying76 ty
  have c0 : w.cell? ⟨h, 0, none⟩ = some (.map (some bm)) := cell_of h1 rfl
  rw [← hel]
  clear h1 h2 h3 h4 hw hel hg
  generalize es.length = N at *
  go_enter Try.func21, Try.ntmps21
  go_wp2_with fail
  go_ret
  exact ⟨rfl, rfl⟩
theorem len_nil (w : World) : Calls Try.prog 21 #[.pointer none] w fun e w' => e = .returned (.int .i64 0) ∧ w' = w := by
  go_enter Try.func21, Try.ntmps21
  go_wp2_with fail
  go_ret
  exact ⟨rfl, rfl⟩
theorem iface_nil (id : Int) (w : World) : Calls Try.prog 16 #[.pointer none, .int .i64 id] w fun e w' => e = .returned (.tuple #[.agg #[.int .i64 0, .int .i64 0, .int .u32 0, .int .i64 0, .int .i64 0], .bool false]) ∧ Below w.heap.size w w' := by
  have hal := (Below.refl w.heap.size w).alloc (Nat.le_refl _) (.cells #[.int .i64 0, .int .i64 0, .int .u32 0, .int .i64 0, .int .i64 0] 34)
  have hnw : (w.alloc (.cells #[.int .i64 0, .int .i64 0, .int .u32 0, .int .i64 0, .int .i64 0] 34)).heap[w.heap.size]? = some (.cells #[.int .i64 0, .int .i64 0, .int .u32 0, .int .i64 0, .int .i64 0] 34) := hnew _ _
  have HA := Lib.hid (And.intro hal hnw)
  clear hal hnw
  go_enter Try.func16, Try.ntmps16
  go_wp2_with (with_reducible refine halt_store 34 rfl ?_)
  refine Halted.go ?_
  refine store_whole rfl 34 _ _ rfl w.heap.size #[.int .i64 0, .int .i64 0, .int .u32 0, .int .i64 0, .int .i64 0] rfl rfl HA.out.2 rfl (by kernel_rfl) (by simp [Value.oneCell']) ?_
  intro wz hwz hsz
  have HZ := Lib.hid (And.intro hwz (Below.trans HA.out.1 (hsz.below (Nat.le_refl _))))
  clear hwz hsz
  go_wp2_with fail
  refine ret_cell2 rfl rfl rfl HZ.out.1 Try.underlying34 rfl (by kernel_rfl) ?_
  exact ⟨rfl, HZ.out.2⟩
theorem find_nil (ρ a : Int) (w : World) : Calls Try.prog 14 #[.pointer none, .int .i64 ρ, .int .u32 a] w fun e w' => e = .returned (.tuple #[.agg #[.int .i64 0, .int .i64 0, .int .u32 0, .int .i64 0, .int .i64 0], .bool false]) ∧ Below w.heap.size w w' := by
  have hal := (Below.refl w.heap.size w).alloc (Nat.le_refl _) (.cells #[.int .i64 0, .int .i64 0, .int .u32 0, .int .i64 0, .int .i64 0] 34)
  have hnw : (w.alloc (.cells #[.int .i64 0, .int .i64 0, .int .u32 0, .int .i64 0, .int .i64 0] 34)).heap[w.heap.size]? = some (.cells #[.int .i64 0, .int .i64 0, .int .u32 0, .int .i64 0, .int .i64 0] 34) := hnew _ _
  have HA := Lib.hid (And.intro hal hnw)
  clear hal hnw
  go_enter Try.func14, Try.ntmps14
  go_wp2_with (with_reducible refine halt_store 34 rfl ?_)
  refine Halted.go ?_
  refine store_whole rfl 34 _ _ rfl w.heap.size #[.int .i64 0, .int .i64 0, .int .u32 0, .int .i64 0, .int .i64 0] rfl rfl HA.out.2 rfl (by kernel_rfl) (by simp [Value.oneCell']) ?_
  intro wz hwz hsz
  have HZ := Lib.hid (And.intro hwz (Below.trans HA.out.1 (hsz.below (Nat.le_refl _))))
  clear hwz hsz
  go_wp2_with fail
  refine ret_cell2 rfl rfl rfl HZ.out.1 Try.underlying34 rfl (by kernel_rfl) ?_
  exact ⟨rfl, HZ.out.2⟩
theorem find_out (h : Nat) {ρ : Int} (hρ : ρ < 0 ∨ 15 < ρ) (a : Int) (w : World) : Calls Try.prog 14 #[.pointer (some ⟨h, 0, none⟩), .int .i64 ρ, .int .u32 a] w fun e w' => e = .returned (.tuple #[.agg #[.int .i64 0, .int .i64 0, .int .u32 0, .int .i64 0, .int .i64 0], .bool false]) ∧ Below w.heap.size w w' := by
  have hal := (Below.refl w.heap.size w).alloc (Nat.le_refl _) (.cells #[.int .i64 0, .int .i64 0, .int .u32 0, .int .i64 0, .int .i64 0] 34)
  have hnw : (w.alloc (.cells #[.int .i64 0, .int .i64 0, .int .u32 0, .int .i64 0, .int .i64 0] 34)).heap[w.heap.size]? = some (.cells #[.int .i64 0, .int .i64 0, .int .u32 0, .int .i64 0, .int .i64 0] 34) := hnew _ _
  have hwi := fun W => hwithin_any ρ 0 15 W
  rw [show (decide ((0 : Int) ≤ ρ) && decide (ρ ≤ 15)) = false from by rw [Bool.eq_false_iff]; simp; omega] at hwi
  have HW := Lib.hid hwi
  have HA := Lib.hid (And.intro hal hnw)
  clear hal hnw hwi hρ
  go_enter Try.func14, Try.ntmps14
  go_wp2_with fail
  refine (HW.out _).mono ?_
  rintro e W ⟨rfl, hW⟩
  generalize w.alloc (.cells #[.int .i64 0, .int .i64 0, .int .u32 0, .int .i64 0, .int .i64 0] 34) = W1 at *
  subst W
  go_wp2_with (with_reducible refine halt_store 34 rfl ?_)
  refine Halted.go ?_
  refine store_whole rfl 34 _ _ rfl w.heap.size #[.int .i64 0, .int .i64 0, .int .u32 0, .int .i64 0, .int .i64 0] rfl rfl HA.out.2 rfl (by kernel_rfl) (by simp [Value.oneCell']) ?_
  intro wz hwz hsz
  have HZ := Lib.hid (And.intro hwz (Below.trans HA.out.1 (hsz.below (Nat.le_refl _))))
  clear hwz hsz
  go_wp2_with fail
  refine ret_cell2 rfl rfl rfl HZ.out.1 Try.underlying34 rfl (by kernel_rfl) ?_
  exact ⟨rfl, HZ.out.2⟩
end Go.Proofs.Ytlkbaplfffbmkaa
