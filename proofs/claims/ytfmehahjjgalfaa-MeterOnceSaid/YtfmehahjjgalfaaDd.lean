/- Those that hold, sorted: All, Expire, Clear. -/
import Derived.Test.YtfmehahjjgalfaaDc
import Derived.Test.YtfmehahjjgalfaaSv
import Derived.Test.YtfmehahjjgalfaaAc
namespace Go.Proofs.Ytfmehahjjgalfaa
open Go.RowKit
open Go.ChangeMaps (setBlock)

def cmpO (x y : Ov) : Int := cmpK x.key y.key
theorem swoO : Go.Sort.SWO (Go.Proofs.ltOf cmpO) := by
  have h : ∀ x y : Ov, Go.Proofs.ltOf cmpO x y = ltO x y := by
    intro x y
    unfold Go.Proofs.ltOf cmpO ltO
    have := @cmpK_lt x.key y.key
    cases hh : ltK x.key y.key with
    | true => rw [hh] at this; simpa using this
    | false => rw [hh] at this; simpa using this
  refine ⟨fun x => by rw [h]; exact ltK_irr _, fun x y z h1 h2 => by rw [h] at *; exact ltK_trans h1 h2, fun x y z h1 h2 => ?_⟩
  rw [h] at *
  unfold ltO at *
  rw [Bool.eq_false_iff] at *
  rw [ne_eq, ltK_iff] at *
  omega
theorem T53 : Rep.Ty Try.prog 53 ROv 40 := Rep.Ty.mk' (z := .agg #[.int .i64 0, .int .u32 0, .int .i64 0, .int .i64 0, .int .i64 0]) Try.underlying53 (by kernel_rfl) rfl
set_option maxRecDepth 100000 in
set_option maxHeartbeats 1000000 in
theorem cmpO_lays (g n : Nat) (w : World) : Go.Proofs.CmpLays Try.prog 93 #[] ROv.cells ROv.k cmpO g 0 n w := by
  intro m os dk _ x y
  generalize Go.Proofs.sortWorldK ROv.cells ROv.k w g 0 m dk os = W
  show Calls Try.prog 93 #[.agg #[.int .i64 x.r, .int .u32 (x.ad : Int), .int .i64 x.ln, .int .i64 x.id, .int .i64 x.till], .agg #[.int .i64 y.r, .int .u32 (y.ad : Int), .int .i64 y.ln, .int .i64 y.id, .int .i64 y.till]] W fun e w' => e = .returned (.int .i64 (cmpO x y)) ∧ Grows W w'
  have hg := ((Grows.refl W).alloc (.cells #[.int .i64 x.r, .int .u32 (x.ad : Int), .int .i64 x.ln, .int .i64 x.id, .int .i64 x.till] 62)).alloc (.cells #[.int .i64 y.r, .int .u32 (y.ad : Int), .int .i64 y.ln, .int .i64 y.id, .int .i64 y.till] 62)
  have hx : OvS W.heap.size x ((W.alloc (.cells #[.int .i64 x.r, .int .u32 (x.ad : Int), .int .i64 x.ln, .int .i64 x.id, .int .i64 x.till] 62)).alloc (.cells #[.int .i64 y.r, .int .u32 (y.ad : Int), .int .i64 y.ln, .int .i64 y.id, .int .i64 y.till] 62)) := hold (hnew _ _)
  have hy : OvS (W.heap.size + 1) y ((W.alloc (.cells #[.int .i64 x.r, .int .u32 (x.ad : Int), .int .i64 x.ln, .int .i64 x.id, .int .i64 x.till] 62)).alloc (.cells #[.int .i64 y.r, .int .u32 (y.ad : Int), .int .i64 y.ln, .int .i64 y.id, .int .i64 y.till] 62)) := hnewAt (by simp)
  obtain ⟨x0, x1, x2, x3, x4⟩ := hx.cells
  obtain ⟨y0, y1, y2, y3, y4⟩ := hy.cells
  have HG := Lib.hid hg
  have HC := Lib.hid (acompare_any x.key y.key)
  unfold cmpO
  generalize cmpK x.key y.key = v at *
  unfold pfx Ov.key at HC
  clear hg hx hy
  go_enter Try.func93, Try.ntmps93
  go_wp2_with fail
  refine (HC.out _).mono ?_
  rintro e w1 ⟨rfl, hw1⟩
  have HG2 := Lib.hid (HG.out.trans hw1)
  clear hw1 x0 x1 x2 x3 x4 y0 y1 y2 y3 y4
  go_wp2_with fail
  go_ret
  exact ⟨rfl, HG2.out⟩
theorem sorted_ord {M : List Ov} (h : Rep.SortedBy cmpO M) (hn : (M.map Ov.key).Nodup) : Ord M := by
  unfold Ord Kl.Ordered
  rw [List.pairwise_iff_getElem]
  intro i j hi hj hij
  have h1 := h i j hij hj
  simp only [List.getD_eq_getElem?_getD, List.getElem?_eq_getElem hi, List.getElem?_eq_getElem hj, Option.getD_some] at h1
  unfold cmpO at h1
  rw [cmpK_ge] at h1
  rw [List.nodup_iff_pairwise_ne, List.pairwise_iff_getElem] at hn
  have h2 := hn i j (by simpa using hi) (by simpa using hj) hij
  simp only [List.getElem_map] at h2
  unfold ltO
  rcases ltK_total M[i].key M[j].key with h | h | h
  · exact h
  · exact absurd h h2
  · rw [h] at h1; cases h1
theorem sorted_is {L M : List Ov} (hL : Ord L) (hp : M.Perm L) (hs : Rep.SortedBy cmpO M) : M = L :=
  Kl.ordered_eq ltO_asymm (sorted_ord hs ((hp.map Ov.key).symm.nodup hL.keys)) hL hp
theorem enters_cl : Go.Proofs.Enters Try.prog 93 := Go.Proofs.enters_of Try.func93 (by decide) rfl
/-- a function tells which hold, in all worlds from w on -/
def Picks (w : World) (F : Nat) (cb : Array Value) (p : Ov → Bool) : Prop := ∀ W, Below w.heap.size w W → ∀ o : Ov, Calls Try.prog F (#[o.v] ++ cb) W fun e w' => e = .returned (.bool (p o)) ∧ Below W.heap.size W w'
theorem Picks.keep {w w' : World} {F : Nat} {cb : Array Value} {p : Ov → Bool} (h : Picks w F cb p) (hb : Below w.heap.size w w') : Picks w' F cb p := fun W hW o => h W (hb.trans (hW.mono hb.size)) o
theorem all_picks (w : World) : Picks w 73 #[] (fun _ => true) := by
  intro W _ o
  have HB := Lib.hid ((Below.refl W.heap.size W).alloc (Nat.le_refl _) (.cells #[.int .i64 o.r, .int .u32 (o.ad : Int), .int .i64 o.ln, .int .i64 o.id, .int .i64 o.till] 62))
  show Calls Try.prog 73 #[.agg #[.int .i64 o.r, .int .u32 (o.ad : Int), .int .i64 o.ln, .int .i64 o.id, .int .i64 o.till]] W _
  go_enter Try.func73, Try.ntmps73
  go_wp2_with fail
  go_ret
  exact ⟨rfl, HB.out⟩
theorem expire_picks {w : World} {b : Nat} {now : Int} (h : w.cell? ⟨b, 0, none⟩ = some (.int .i64 now)) (hb : b < w.heap.size) : Picks w 72 #[.pointer (some ⟨b, 0, none⟩)] (fun o => decide (o.till < now)) := by
  intro W hW o
  have hal := (Below.refl W.heap.size W).alloc (Nat.le_refl _) (.cells #[.int .i64 o.r, .int .u32 (o.ad : Int), .int .i64 o.ln, .int .i64 o.id, .int .i64 o.till] 62)
  have c0 : (W.alloc (.cells #[.int .i64 o.r, .int .u32 (o.ad : Int), .int .i64 o.ln, .int .i64 o.id, .int .i64 o.till] 62)).cell? ⟨b, 0, none⟩ = some (.int .i64 now) := (cell_same (hal.block _ (Nat.lt_of_lt_of_le hb hW.size))).trans ((cell_same (hW.block _ hb)).trans h)
  have hos : OvS W.heap.size o (W.alloc (.cells #[.int .i64 o.r, .int .u32 (o.ad : Int), .int .i64 o.ln, .int .i64 o.id, .int .i64 o.till] 62)) := hnew _ _
  obtain ⟨z0, z1, z2, z3, z4⟩ := hos.cells
  have HB := Lib.hid hal
  clear hal hos h
  show Calls Try.prog 72 #[.agg #[.int .i64 o.r, .int .u32 (o.ad : Int), .int .i64 o.ln, .int .i64 o.id, .int .i64 o.till], .pointer (some ⟨b, 0, none⟩)] W _
  go_enter Try.func72, Try.ntmps72
  go_wp2_with fail
  go_ret
  exact ⟨ret_bool (by simp), HB.out⟩
theorem some_nil (fv : Value) (w : World) : Calls Try.prog 71 #[.pointer none, fv] w fun e w' => e = .returned (.slice none 0 0) ∧ Below w.heap.size w w' := by
  go_enter Try.func71, Try.ntmps71
  go_wp2_with fail
  refine (tmade_nil _).mono ?_
  rintro e W1 ⟨rfl, rfl⟩
  go_wp2_with fail
  go_ret
  exact ⟨rfl, Below.refl _ _⟩
def lenV : Value → Nat
  | .slice _ n _ => n
  | _ => 0
theorem Own_lenV {α : Type} [Inhabited α] {R : Rep α} {w : World} {base : Nat} {v : Value} {L : List α} (h : R.Own w base v L) : lenV v = L.length := by
  rcases h.sl with ⟨a, c, rfl, -⟩; rfl
def seenN (w : World) (b : Nat) : Nat := match w.heap[b]? with
  | some (.mapIter _ _ seen _) => seen.size
  | _ => 0
theorem seenN_of {w : World} {b : Nat} {m : Option Nat} {c : Nat} {seen : Array Nat} {d : Nat} (h : w.heap[b]? = some (.mapIter m c seen d)) : seenN w b = seen.size := by unfold seenN; rw [h]
theorem Ran_len {κ : Type} {l done : List (MR.Ent κ)} {seen : Array Nat} (h : MR.Ran l seen done) (hb : (l.map (·.2.2)).Nodup) : done.length ≤ l.length ∧ seen.size = done.length := by
  refine ⟨?_, by have := congrArg List.length h.seen; simpa using this⟩
  have h1 : done.length ≤ (l.filter fun e => decide (e.2.2 ∈ done.map (·.2.2))).length := by
    have hp : done.Perm (l.filter fun e => decide (e.2.2 ∈ done.map (·.2.2))) := by
      rw [List.perm_ext_iff_of_nodup (MR.nodup_of_map h.nodup) ((MR.nodup_of_map hb).filter _)]
      intro e
      rw [List.mem_filter, decide_eq_true_eq]
      constructor
      · intro he; exact ⟨h.sub e he, List.mem_map.2 ⟨e, he, rfl⟩⟩
      · rintro ⟨h1, h2⟩
        obtain ⟨x, hx, hxe⟩ := List.mem_map.1 h2
        rw [← MR.inj_of_nodup hb (h.sub x hx) h1 hxe]
        exact hx
    exact Nat.le_of_eq hp.length_eq
  exact Nat.le_trans h1 (List.length_filter_le _ _)
theorem filter_snoc {α : Type} (p : α → Bool) (l : List α) (x : α) : (l ++ [x]).filter p = if p x then l.filter p ++ [x] else l.filter p := by
  rw [List.filter_append, List.filter_cons]
  split <;> simp
set_option maxRecDepth 100000 in
set_option maxHeartbeats 4000000 in
theorem some_all {w : World} {t bm : Nat} {L : List Ov} (H : TabAt w t bm L) (hlen : L.length ≤ 4611686) {p : Ov → Bool} (hF : Picks w 73 #[] p) : Calls Try.prog 71 #[.pointer (some ⟨t, 0, none⟩), .func (.func 73) #[] #[]] w fun e w' => ∃ v, e = .returned v ∧ ROv.Own w' w.heap.size v (L.filter p) ∧ Below w.heap.size w w' := by
  have HM := Lib.hid (tmade_any H)
  have c0 := H.c0
  have hlt := H.lt
  obtain ⟨⟨clk, es, k1, k2, k3⟩, ho⟩ := H
  have hrg := MR.run_range PN k2 Try.underlying113
  have hal := (Below.refl w.heap.size w).alloc (Nat.le_refl _) (.mapIter (some bm) clk #[] clk)
  have hit : (w.alloc (.mapIter (some bm) clk #[] clk)).heap[w.heap.size]? = some (.mapIter (some bm) clk #[] clk) := hnew _ _
  have HF := Lib.hid (And.intro k2 (And.intro k3 (And.intro ho (And.intro hlt.2.1 hF))))
  have HLE := Lib.hid (show es.length ≤ 4611686 from by rw [k3.len]; exact hlen)
  have HW := Lib.hid (And.intro hal hit)
  clear k1 k2 k3 ho hal hit hlt hF hlen
  go_enter Try.func71, Try.ntmps71
  go_wp2_with fail
  refine HM.out.mono ?_
  rintro e W1 ⟨rfl, hw⟩
  subst hw
  go_wp2_with fail
  go_loopw [5] (fun ov wr => ∃ (done : List (MR.Ent PK)) (seen : Array Nat), ROv.Own wr (W1.heap.size + 1) ov ((done.map (Kl.ofE Ov.key L)).filter p) ∧ wr.heap[W1.heap.size]? = some (.mapIter (some bm) clk seen clk) ∧ MR.Ran es seen done ∧ Below W1.heap.size W1 wr ∧ W1.heap.size + 1 ≤ wr.heap.size) (fun _ wr => es.length - seenN wr W1.heap.size)
  case atStart => exact ⟨[], #[], Rep.Own.nil _ _, HW.out.2, MR.Ran.none _, HW.out.1, by simp⟩
  case round =>
    obtain ⟨done, seen, hown, hit, hran, hb, hsz⟩ := hrel
    obtain ⟨w2, rfl⟩ : ∃ w2 : World, w2 = wr := ⟨_, rfl⟩
    have hm2 : MR.MapAt PN w2 bm es clk := HF.out.1.blk_iff PN (hb.block _ HF.out.2.2.2.1)
    obtain ⟨hdl, hsd⟩ := Ran_len hran HF.out.1.bnodup
    rcases MR.next_step PN hm2 hit 0 with ⟨hall, hnx⟩ | ⟨e, hein, hens, w3, hnx, hset⟩
    · have hpe := ((hran.all HF.out.1.bnodup hall).map (Kl.ofE Ov.key L)).trans HF.out.2.1.perm
      have hpf := hpe.filter p
      obtain ⟨oa, cc, rfl, -, -⟩ := hown.sl0
      have hbs : W1.heap.size + 1 ≤ w2.heap.size := hsz
      have hln : ((done.map (Kl.ofE Ov.key L)).filter p).length < 4611686018427387904 := by
        have h1 := List.length_filter_le p (done.map (Kl.ofE Ov.key L))
        rw [List.length_map] at h1
        have := HLE.out
        omega
      have HS := Lib.hid (Rep.sort_own (R := ROv) sortOv Try.isAgg62 Try.sizeOf62 cmpO swoO 93 #[] enters_cl hown (fun g => cmpO_lays g _ _) hln hbs)
      have G := Lib.hid (And.intro hpf hb)
      have HO := Lib.hid (HF.out.2.2.1.filter p)
      generalize ((done.map (Kl.ofE Ov.key L)).filter p).length = m at *
      clear hown hm2 hit hran hb hdl hsd hall hpe hpf hln
      go_wp2_with fail
      refine HS.out.mono ?_
      rintro ev w9 ⟨rfl, M, hp, hs, hown9, hb9⟩
      have HE := Lib.hid (show ROv.Own w9 (W1.heap.size + 1) (.slice oa m cc) (L.filter p) ∧ Below W1.heap.size W1 w9 from by
        have := sorted_is HO.out (hp.trans G.out.1) hs
        subst this
        exact ⟨hown9, G.out.2.trans (hb9.mono (Nat.le_succ _))⟩)
      clear hp hs hown9 hb9 HS G HO
      go_wp2_with fail
      go_ret
      exact ⟨_, rfl, HE.out.1.mono (Nat.le_succ _), HE.out.2⟩
    · have hm3 := hm2.blk_iff PN (hset.other (show bm ≠ W1.heap.size from by have := HF.out.2.2.2.1; omega))
      have hen := MR.run_entry PN hm3 hein (hset.at hsz)
      have hent0 := HF.out.2.1.ent hein
      rw [hent0.2.1] at hnx hen
      have hown3 := Rep.Own.but hown (But.of_set hset (bs := [W1.heap.size]) (by simp)) (by simp)
      have hb3 : Below W1.heap.size W1 w3 := hb.trans (hset.below (Nat.le_refl _))
      have hr3 := hran.more hein hens
      have hit3 := hset.at hsz
      have hs3 : W1.heap.size + 1 ≤ w3.heap.size := by rw [hset.size]; exact hsz
      have hms : seenN w2 W1.heap.size = seen.size := seenN_of hit
      have hdl3 := (Ran_len hr3 HF.out.1.bnodup)
      have hme : ((done ++ [e]).map (Kl.ofE Ov.key L)).filter p = if p (Kl.ofE Ov.key L e) then (done.map (Kl.ofE Ov.key L)).filter p ++ [Kl.ofE Ov.key L e] else (done.map (Kl.ofE Ov.key L)).filter p := by
        rw [List.map_append]
        exact filter_snoc p _ _
      have hln : ((done.map (Kl.ofE Ov.key L)).filter p).length ≤ done.length := by
        have h1 := List.length_filter_le p (done.map (Kl.ofE Ov.key L))
        rw [List.length_map] at h1
        exact h1
      obtain ⟨oa, cc, rfl, -, -⟩ := hown.sl0
      obtain ⟨n, hn⟩ : ∃ n, ((done.map (Kl.ofE Ov.key L)).filter p).length = n := ⟨_, rfl⟩
      have HN := Lib.hid hn
      rw [hn] at hown3 hln ⊢
      have HG := Lib.hid (And.intro hown3 (And.intro hr3 (And.intro hb3 (And.intro hs3 (And.intro hit3 (And.intro hme (And.intro hdl3 (And.intro hln hms))))))))
      generalize Kl.ofE Ov.key L e = x at *
      generalize PN.enc e.1 = ke at *
      unfold Ov.v at hnx hen
      clear hown hran hb hdl hsd hm2 hit hm3 hset hens hown3 hr3 hb3 hs3 hit3 hme hdl3 hln hein hent0 hms hn
      go_wp2_with (with_reducible refine halt_store 62 rfl ?_)
      refine Halted.go ?_
      have hal := (Below.refl w3.heap.size w3).alloc (Nat.le_refl _) (.cells #[.int .i64 0, .int .u32 0, .int .i64 0, .int .i64 0, .int .i64 0] 62)
      refine store_whole rfl 62 _ _ rfl w3.heap.size #[.int .i64 x.r, .int .u32 (x.ad : Int), .int .i64 x.ln, .int .i64 x.id, .int .i64 x.till] rfl rfl (hnew _ _) rfl (by kernel_rfl) (by simp [Value.oneCell']) ?_
      intro wz hwz hsz
      have hzb : Below w3.heap.size w3 wz := Below.trans hal (hsz.below (Nat.le_refl _))
      obtain ⟨z0, z1, z2, z3, z4⟩ := OvS.cells (o := x) hwz
      have HZ := Lib.hid (And.intro (HG.out.1.below hzb) (And.intro (show OvS w3.heap.size x wz from hwz) (And.intro (hzb.mono HG.out.2.2.2.1) (And.intro (Nat.le_trans HG.out.2.2.2.1 hzb.size) (HG.out.2.2.1.trans (hzb.mono (Nat.le_of_succ_le HG.out.2.2.2.1)))))))
      clear hwz hsz hal hzb
      have HP := Lib.hid (HF.out.2.2.2.2 wz HZ.out.2.2.2.2 x)
      generalize w3.heap.size = q3 at *
      go_wp2_with fail
      refine HP.out.mono ?_
      rintro ev w9 ⟨rfl, hb9⟩
      have hb19 : Below (W1.heap.size + 1) w3 w9 := HZ.out.2.2.1.trans (hb9.mono HZ.out.2.2.2.1)
      have HJ := Lib.hid (And.intro (HZ.out.1.below hb9) (And.intro hb19 (And.intro (show OvS q3 x w9 from HZ.out.2.1.on (hb9.block _ (lt_of_blk HZ.out.2.1))) (Nat.le_trans HZ.out.2.2.2.1 hb9.size))))
      clear hb9 hb19 HP z0 z1 z2 z3 z4
      obtain ⟨z0, z1, z2, z3, z4⟩ := OvS.cells HJ.out.2.2.1
      cases hpx : p x with
      | false =>
        have HPX := Lib.hid hpx
        clear hpx
        go_wp2_with fail
        obtain ⟨g1, g2, g3, g4, g5, g6, g7, g8, g9⟩ := HG.out
        rw [HPX.out, if_neg (by simp)] at g6
        refine ⟨⟨done ++ [e], seen.push e.2.2, ?_, (HJ.out.2.1.block _ (Nat.lt_succ_self _)).trans g5, g2, g3.trans (HJ.out.2.1.mono (Nat.le_succ _)), HJ.out.2.2.2⟩, ?_⟩
        · rw [g6]; exact HJ.out.1
        · have h5 : seenN w9 W1.heap.size = (seen.push e.2.2).size := seenN_of ((HJ.out.2.1.block _ (Nat.lt_succ_self _)).trans g5)
          have h6 := g7.2
          have h7 := g7.1
          rw [h5, g9]
          rw [Array.size_push] at h6 ⊢
          omega
      | true =>
        have HPX := Lib.hid hpx
        clear hpx
        go_wp2_with (at_builtin; refine halt ?_)
        refine Halted.go ?_
        have hn2 : n ≤ 4611686 := by
          have h1 := HG.out.2.2.2.2.2.2.2.1
          have h2 := HG.out.2.2.2.2.2.2.1.1
          have h3 := HLE.out
          have h4 := HN.out
          rw [List.length_append] at h2
          omega
        have hal := (Below.refl w9.heap.size w9).alloc (Nat.le_refl _) (.cells #[.int .i64 x.r, .int .u32 (x.ad : Int), .int .i64 x.ln, .int .i64 x.id, .int .i64 x.till] 62)
        refine Rep.append_one T53 rfl _ _ rfl rfl (HJ.out.1.below hal) x _ 1 rfl (hnewAt (by simp)) (n := n) HN.out (by unfold maxLen; omega) (by show (n + 1) * 40 ≤ _; omega) (Nat.le_trans HJ.out.2.2.2 hal.size) ?_
        intro v6 w6 hown6 hb6 _
        obtain ⟨o6, c6, rfl, -, -⟩ := hown6.sl0
        obtain ⟨k1, hk1⟩ : ∃ k1, ((done.map (Kl.ofE Ov.key L)).filter p ++ [x]).length = k1 := ⟨_, rfl⟩
        rw [hk1] at hown6 ⊢
        clear hk1
        have hbz : Below (W1.heap.size + 1) w3 w6 := HJ.out.2.1.trans ((hal.mono HJ.out.2.2.2).trans hb6)
        have HK := Lib.hid (And.intro hown6 (And.intro hbz (Nat.le_trans HJ.out.2.2.2 (Nat.le_trans hal.size hb6.size))))
        clear hown6 hb6 hbz hal hn2
        go_wp2_with fail
        obtain ⟨g1, g2, g3, g4, g5, g6, g7, g8, g9⟩ := HG.out
        rw [HPX.out, if_pos rfl] at g6
        refine ⟨⟨done ++ [e], seen.push e.2.2, ?_, (HK.out.2.1.block _ (Nat.lt_succ_self _)).trans g5, g2, g3.trans (HK.out.2.1.mono (Nat.le_succ _)), HK.out.2.2⟩, ?_⟩
        · rw [g6]; exact HK.out.1
        · have h5 : seenN w6 W1.heap.size = (seen.push e.2.2).size := seenN_of ((HK.out.2.1.block _ (Nat.lt_succ_self _)).trans g5)
          have h6 := g7.2
          have h7 := g7.1
          rw [h5, g9]
          rw [Array.size_push] at h6 ⊢
          omega
set_option maxRecDepth 100000 in
set_option maxHeartbeats 4000000 in
theorem some_till {w : World} {t bm : Nat} {L : List Ov} (H : TabAt w t bm L) (hlen : L.length ≤ 4611686) {b : Nat} {p : Ov → Bool} (hF : Picks w 72 #[.pointer (some ⟨b, 0, none⟩)] p) : Calls Try.prog 71 #[.pointer (some ⟨t, 0, none⟩), .func (.func 72) #[] #[.pointer (some ⟨b, 0, none⟩)]] w fun e w' => ∃ v, e = .returned v ∧ ROv.Own w' w.heap.size v (L.filter p) ∧ Below w.heap.size w w' := by
  have HM := Lib.hid (tmade_any H)
  have c0 := H.c0
  have hlt := H.lt
  obtain ⟨⟨clk, es, k1, k2, k3⟩, ho⟩ := H
  have hrg := MR.run_range PN k2 Try.underlying113
  have hal := (Below.refl w.heap.size w).alloc (Nat.le_refl _) (.mapIter (some bm) clk #[] clk)
  have hit : (w.alloc (.mapIter (some bm) clk #[] clk)).heap[w.heap.size]? = some (.mapIter (some bm) clk #[] clk) := hnew _ _
  have HF := Lib.hid (And.intro k2 (And.intro k3 (And.intro ho (And.intro hlt.2.1 hF))))
  have HLE := Lib.hid (show es.length ≤ 4611686 from by rw [k3.len]; exact hlen)
  have HW := Lib.hid (And.intro hal hit)
  clear k1 k2 k3 ho hal hit hlt hF hlen
  go_enter Try.func71, Try.ntmps71
  go_wp2_with fail
  refine HM.out.mono ?_
  rintro e W1 ⟨rfl, hw⟩
  subst hw
  go_wp2_with fail
  go_loopw [5] (fun ov wr => ∃ (done : List (MR.Ent PK)) (seen : Array Nat), ROv.Own wr (W1.heap.size + 1) ov ((done.map (Kl.ofE Ov.key L)).filter p) ∧ wr.heap[W1.heap.size]? = some (.mapIter (some bm) clk seen clk) ∧ MR.Ran es seen done ∧ Below W1.heap.size W1 wr ∧ W1.heap.size + 1 ≤ wr.heap.size) (fun _ wr => es.length - seenN wr W1.heap.size)
  case atStart => exact ⟨[], #[], Rep.Own.nil _ _, HW.out.2, MR.Ran.none _, HW.out.1, by simp⟩
  case round =>
    obtain ⟨done, seen, hown, hit, hran, hb, hsz⟩ := hrel
    obtain ⟨w2, rfl⟩ : ∃ w2 : World, w2 = wr := ⟨_, rfl⟩
    have hm2 : MR.MapAt PN w2 bm es clk := HF.out.1.blk_iff PN (hb.block _ HF.out.2.2.2.1)
    obtain ⟨hdl, hsd⟩ := Ran_len hran HF.out.1.bnodup
    rcases MR.next_step PN hm2 hit 0 with ⟨hall, hnx⟩ | ⟨e, hein, hens, w3, hnx, hset⟩
    · have hpe := ((hran.all HF.out.1.bnodup hall).map (Kl.ofE Ov.key L)).trans HF.out.2.1.perm
      have hpf := hpe.filter p
      obtain ⟨oa, cc, rfl, -, -⟩ := hown.sl0
      have hbs : W1.heap.size + 1 ≤ w2.heap.size := hsz
      have hln : ((done.map (Kl.ofE Ov.key L)).filter p).length < 4611686018427387904 := by
        have h1 := List.length_filter_le p (done.map (Kl.ofE Ov.key L))
        rw [List.length_map] at h1
        have := HLE.out
        omega
      have HS := Lib.hid (Rep.sort_own (R := ROv) sortOv Try.isAgg62 Try.sizeOf62 cmpO swoO 93 #[] enters_cl hown (fun g => cmpO_lays g _ _) hln hbs)
      have G := Lib.hid (And.intro hpf hb)
      have HO := Lib.hid (HF.out.2.2.1.filter p)
      generalize ((done.map (Kl.ofE Ov.key L)).filter p).length = m at *
      clear hown hm2 hit hran hb hdl hsd hall hpe hpf hln
      go_wp2_with fail
      refine HS.out.mono ?_
      rintro ev w9 ⟨rfl, M, hp, hs, hown9, hb9⟩
      have HE := Lib.hid (show ROv.Own w9 (W1.heap.size + 1) (.slice oa m cc) (L.filter p) ∧ Below W1.heap.size W1 w9 from by
        have := sorted_is HO.out (hp.trans G.out.1) hs
        subst this
        exact ⟨hown9, G.out.2.trans (hb9.mono (Nat.le_succ _))⟩)
      clear hp hs hown9 hb9 HS G HO
      go_wp2_with fail
      go_ret
      exact ⟨_, rfl, HE.out.1.mono (Nat.le_succ _), HE.out.2⟩
    · have hm3 := hm2.blk_iff PN (hset.other (show bm ≠ W1.heap.size from by have := HF.out.2.2.2.1; omega))
      have hen := MR.run_entry PN hm3 hein (hset.at hsz)
      have hent0 := HF.out.2.1.ent hein
      rw [hent0.2.1] at hnx hen
      have hown3 := Rep.Own.but hown (But.of_set hset (bs := [W1.heap.size]) (by simp)) (by simp)
      have hb3 : Below W1.heap.size W1 w3 := hb.trans (hset.below (Nat.le_refl _))
      have hr3 := hran.more hein hens
      have hit3 := hset.at hsz
      have hs3 : W1.heap.size + 1 ≤ w3.heap.size := by rw [hset.size]; exact hsz
      have hms : seenN w2 W1.heap.size = seen.size := seenN_of hit
      have hdl3 := (Ran_len hr3 HF.out.1.bnodup)
      have hme : ((done ++ [e]).map (Kl.ofE Ov.key L)).filter p = if p (Kl.ofE Ov.key L e) then (done.map (Kl.ofE Ov.key L)).filter p ++ [Kl.ofE Ov.key L e] else (done.map (Kl.ofE Ov.key L)).filter p := by
        rw [List.map_append]
        exact filter_snoc p _ _
      have hln : ((done.map (Kl.ofE Ov.key L)).filter p).length ≤ done.length := by
        have h1 := List.length_filter_le p (done.map (Kl.ofE Ov.key L))
        rw [List.length_map] at h1
        exact h1
      obtain ⟨oa, cc, rfl, -, -⟩ := hown.sl0
      obtain ⟨n, hn⟩ : ∃ n, ((done.map (Kl.ofE Ov.key L)).filter p).length = n := ⟨_, rfl⟩
      have HN := Lib.hid hn
      rw [hn] at hown3 hln ⊢
      have HG := Lib.hid (And.intro hown3 (And.intro hr3 (And.intro hb3 (And.intro hs3 (And.intro hit3 (And.intro hme (And.intro hdl3 (And.intro hln hms))))))))
      generalize Kl.ofE Ov.key L e = x at *
      generalize PN.enc e.1 = ke at *
      unfold Ov.v at hnx hen
      clear hown hran hb hdl hsd hm2 hit hm3 hset hens hown3 hr3 hb3 hs3 hit3 hme hdl3 hln hein hent0 hms hn
      go_wp2_with (with_reducible refine halt_store 62 rfl ?_)
      refine Halted.go ?_
      have hal := (Below.refl w3.heap.size w3).alloc (Nat.le_refl _) (.cells #[.int .i64 0, .int .u32 0, .int .i64 0, .int .i64 0, .int .i64 0] 62)
      refine store_whole rfl 62 _ _ rfl w3.heap.size #[.int .i64 x.r, .int .u32 (x.ad : Int), .int .i64 x.ln, .int .i64 x.id, .int .i64 x.till] rfl rfl (hnew _ _) rfl (by kernel_rfl) (by simp [Value.oneCell']) ?_
      intro wz hwz hsz
      have hzb : Below w3.heap.size w3 wz := Below.trans hal (hsz.below (Nat.le_refl _))
      obtain ⟨z0, z1, z2, z3, z4⟩ := OvS.cells (o := x) hwz
      have HZ := Lib.hid (And.intro (HG.out.1.below hzb) (And.intro (show OvS w3.heap.size x wz from hwz) (And.intro (hzb.mono HG.out.2.2.2.1) (And.intro (Nat.le_trans HG.out.2.2.2.1 hzb.size) (HG.out.2.2.1.trans (hzb.mono (Nat.le_of_succ_le HG.out.2.2.2.1)))))))
      clear hwz hsz hal hzb
      have HP := Lib.hid (HF.out.2.2.2.2 wz HZ.out.2.2.2.2 x)
      generalize w3.heap.size = q3 at *
      go_wp2_with fail
      refine HP.out.mono ?_
      rintro ev w9 ⟨rfl, hb9⟩
      have hb19 : Below (W1.heap.size + 1) w3 w9 := HZ.out.2.2.1.trans (hb9.mono HZ.out.2.2.2.1)
      have HJ := Lib.hid (And.intro (HZ.out.1.below hb9) (And.intro hb19 (And.intro (show OvS q3 x w9 from HZ.out.2.1.on (hb9.block _ (lt_of_blk HZ.out.2.1))) (Nat.le_trans HZ.out.2.2.2.1 hb9.size))))
      clear hb9 hb19 HP z0 z1 z2 z3 z4
      obtain ⟨z0, z1, z2, z3, z4⟩ := OvS.cells HJ.out.2.2.1
      cases hpx : p x with
      | false =>
        have HPX := Lib.hid hpx
        clear hpx
        go_wp2_with fail
        obtain ⟨g1, g2, g3, g4, g5, g6, g7, g8, g9⟩ := HG.out
        rw [HPX.out, if_neg (by simp)] at g6
        refine ⟨⟨done ++ [e], seen.push e.2.2, ?_, (HJ.out.2.1.block _ (Nat.lt_succ_self _)).trans g5, g2, g3.trans (HJ.out.2.1.mono (Nat.le_succ _)), HJ.out.2.2.2⟩, ?_⟩
        · rw [g6]; exact HJ.out.1
        · have h5 : seenN w9 W1.heap.size = (seen.push e.2.2).size := seenN_of ((HJ.out.2.1.block _ (Nat.lt_succ_self _)).trans g5)
          have h6 := g7.2
          have h7 := g7.1
          rw [h5, g9]
          rw [Array.size_push] at h6 ⊢
          omega
      | true =>
        have HPX := Lib.hid hpx
        clear hpx
        go_wp2_with (at_builtin; refine halt ?_)
        refine Halted.go ?_
        have hn2 : n ≤ 4611686 := by
          have h1 := HG.out.2.2.2.2.2.2.2.1
          have h2 := HG.out.2.2.2.2.2.2.1.1
          have h3 := HLE.out
          have h4 := HN.out
          rw [List.length_append] at h2
          omega
        have hal := (Below.refl w9.heap.size w9).alloc (Nat.le_refl _) (.cells #[.int .i64 x.r, .int .u32 (x.ad : Int), .int .i64 x.ln, .int .i64 x.id, .int .i64 x.till] 62)
        refine Rep.append_one T53 rfl _ _ rfl rfl (HJ.out.1.below hal) x _ 1 rfl (hnewAt (by simp)) (n := n) HN.out (by unfold maxLen; omega) (by show (n + 1) * 40 ≤ _; omega) (Nat.le_trans HJ.out.2.2.2 hal.size) ?_
        intro v6 w6 hown6 hb6 _
        obtain ⟨o6, c6, rfl, -, -⟩ := hown6.sl0
        obtain ⟨k1, hk1⟩ : ∃ k1, ((done.map (Kl.ofE Ov.key L)).filter p ++ [x]).length = k1 := ⟨_, rfl⟩
        rw [hk1] at hown6 ⊢
        clear hk1
        have hbz : Below (W1.heap.size + 1) w3 w6 := HJ.out.2.1.trans ((hal.mono HJ.out.2.2.2).trans hb6)
        have HK := Lib.hid (And.intro hown6 (And.intro hbz (Nat.le_trans HJ.out.2.2.2 (Nat.le_trans hal.size hb6.size))))
        clear hown6 hb6 hbz hal hn2
        go_wp2_with fail
        obtain ⟨g1, g2, g3, g4, g5, g6, g7, g8, g9⟩ := HG.out
        rw [HPX.out, if_pos rfl] at g6
        refine ⟨⟨done ++ [e], seen.push e.2.2, ?_, (HK.out.2.1.block _ (Nat.lt_succ_self _)).trans g5, g2, g3.trans (HK.out.2.1.mono (Nat.le_succ _)), HK.out.2.2⟩, ?_⟩
        · rw [g6]; exact HK.out.1
        · have h5 : seenN w6 W1.heap.size = (seen.push e.2.2).size := seenN_of ((HK.out.2.1.block _ (Nat.lt_succ_self _)).trans g5)
          have h6 := g7.2
          have h7 := g7.1
          rw [h5, g9]
          rw [Array.size_push] at h6 ⊢
          omega
end Go.Proofs.Ytfmehahjjgalfaa
