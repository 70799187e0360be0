/- What a source says: which may be; within; none is odd. -/
import Derived.Test.YtgainkgbodmciaaXan
import Derived.Test.YtgainkgbodmciaaXak
namespace Go.Proofs.Ytgainkgbodmciaa
open Go.RowKit

def okC (y : Cy) : Bool := (decide (0 ≤ y.id) && decide (y.id ≤ 4294967295)) && (decide (0 ≤ y.cp) && decide (y.cp ≤ 9007199254740991))
def okCs (src seq : Int) (L : List Cy) : Bool := (decide (0 ≤ src) && decide (src ≤ 15)) && (decide (0 ≤ seq) && decide (seq ≤ 9007199254740991)) && decide (L.length ≤ 256) && decide ((L.map Cy.id).Nodup) && L.all okC
def addId (S : List Int) (x : Int) : List Int := if x ∈ S then S else S ++ [x]
def idsOf (L : List Int) : List Int := L.foldl addId []
theorem idsOf_snoc (L : List Int) (x : Int) : idsOf (L ++ [x]) = addId (idsOf L) x := by unfold idsOf; rw [List.foldl_append]; rfl
theorem idsOf_succ {L : List Cy} {i : Nat} (h : i < L.length) : idsOf ((L.take (i + 1)).map Cy.id) = addId (idsOf ((L.take i).map Cy.id)) (L.getD i default).id := by
  rw [take_map_succ Cy.id L h, idsOf_snoc]
theorem snoc_ind {P : List Int → Prop} (h0 : P []) (h1 : ∀ L x, P L → P (L ++ [x])) : ∀ L, P L := by
  intro L
  have : ∀ n (L : List Int), L.length = n → P L := by
    intro n
    induction n with
    | zero => intro L h; rw [List.length_eq_zero_iff.1 h]; exact h0
    | succ n ih =>
      intro L h
      have hne : L ≠ [] := by rintro rfl; simp at h
      rw [← List.dropLast_concat_getLast hne]
      exact h1 _ _ (ih _ (by simp; omega))
  exact this _ _ rfl
theorem idsOf_mem : ∀ (L : List Int) (y : Int), y ∈ idsOf L ↔ y ∈ L := by
  refine snoc_ind (fun y => Iff.rfl) fun L x ih y => ?_
  rw [idsOf_snoc]
  unfold addId
  split
  · rename_i h
    rw [ih, List.mem_append, List.mem_singleton]
    refine ⟨.inl, ?_⟩
    rintro (h1 | rfl)
    · exact h1
    · exact (ih _).1 h
  · rw [List.mem_append, List.mem_append, ih]
theorem idsOf_len : ∀ L : List Int, (L.Nodup → (idsOf L).length = L.length) ∧ (¬ L.Nodup → (idsOf L).length < L.length) ∧ (idsOf L).length ≤ L.length := by
  refine snoc_ind ⟨fun _ => rfl, fun h => absurd List.nodup_nil h, Nat.le_refl _⟩ fun L x ih => ?_
  obtain ⟨h1, h2, h3⟩ := ih
  rw [idsOf_snoc]
  unfold addId
  by_cases hx : x ∈ idsOf L
  · rw [if_pos hx]
    have hm := (idsOf_mem L x).1 hx
    refine ⟨fun h => ?_, fun _ => by simp; omega, by simp; omega⟩
    rw [List.nodup_append] at h
    exact absurd rfl (h.2.2 x hm x (by simp))
  · rw [if_neg hx]
    have hm : x ∉ L := fun h => hx ((idsOf_mem L x).2 h)
    refine ⟨fun h => ?_, fun h => ?_, by simp; omega⟩
    · rw [List.nodup_append] at h
      simp [h1 h.1]
    · have : ¬ L.Nodup := fun hn => h (by rw [List.nodup_append]; exact ⟨hn, by simp, fun a ha b hb => by simp at hb; subst hb; rintro rfl; exact hm ha⟩)
      simp
      exact h2 this
theorem put_ids {l : List (MR.Ent Int)} {x : Int} (v : Value) (c : Nat) : (MR.put l x v c).map (·.1) = addId (l.map (·.1)) x := by
  unfold MR.put addId
  split
  · rw [List.map_map]
    refine List.map_congr_left fun e _ => ?_
    simp only [Function.comp]
    split
    · rename_i h; exact h.symm
    · rfl
  · simp
/-- what a source says, in a slice -/
structure Cys (w : World) (oa : Option Addr) (n c : Nat) (L : List Cy) : Prop where
  sl : RCy.Sl w oa n c L
  ok : ∀ y ∈ L, IN.ok y.id
theorem Cys.keep {w w' : World} {oa : Option Addr} {n c : Nat} {L : List Cy} (h : Cys w oa n c L) (hb : Below w.heap.size w w') : Cys w' oa n c L := ⟨h.sl.keep hb, h.ok⟩
def CyS (b : Nat) (y : Cy) (w : World) : Prop := w.heap[b]? = some (.cells #[.int .i64 y.id, .int .i64 y.cp, .bool y.dr] 52)
theorem CyS.cells {b : Nat} {y : Cy} {w : World} (h : CyS b y w) : w.cell? ⟨b, 0, none⟩ = some (.int .i64 y.id) ∧ w.cell? ⟨b, 1, none⟩ = some (.int .i64 y.cp) ∧ w.cell? ⟨b, 2, none⟩ = some (.bool y.dr) := ⟨cell_of h rfl, cell_of h rfl, cell_of h rfl⟩
theorem CyS.on {b : Nat} {y : Cy} {w w' : World} (h : CyS b y w) (hb : Below w.heap.size w w') : CyS b y w' := (hb.block _ (lt_of_blk h)).trans h
theorem cwithin_any (n a b : Int) (w : World) : Calls Try.prog 43 #[.int .i64 n, .int .i64 a, .int .i64 b] w fun e w' => e = .returned (.bool (decide (a ≤ n) && decide (n ≤ b))) ∧ w' = w := by
  by_cases h1 : a ≤ n
  · by_cases h2 : n ≤ b
    · go_enter Try.func43, Try.ntmps43
      go_wp2_with fail
      go_ret
      exact ⟨by simp [h1, h2], rfl⟩
    · go_enter Try.func43, Try.ntmps43
      go_wp2_with fail
      go_ret
      exact ⟨by simp [h2], rfl⟩
  · go_enter Try.func43, Try.ntmps43
    go_wp2_with fail
    go_ret
    exact ⟨by rw [decide_eq_false (Int.not_le.2 h1)]; rfl, rfl⟩
set_option maxRecDepth 100000 in
theorem codd_any (y : Cy) (w : World) : Calls Try.prog 67 #[y.v] w fun e w' => e = .returned (.bool (!okC y)) ∧ Below w.heap.size w w' := by
  have hal := (Below.refl w.heap.size w).alloc (Nat.le_refl _) (.cells #[.int .i64 y.id, .int .i64 y.cp, .bool y.dr] 52)
  have hxs : CyS w.heap.size y (w.alloc (.cells #[.int .i64 y.id, .int .i64 y.cp, .bool y.dr] 52)) := hnew _ _
  have W1 := fun W => cwithin_any y.id 0 4294967295 W
  have W2 := fun W => cwithin_any y.cp 0 9007199254740991 W
  obtain ⟨b, hbk⟩ : ∃ b, okC y = b := ⟨_, rfl⟩
  rw [hbk]
  unfold okC at hbk
  generalize (decide (0 ≤ y.id) && decide (y.id ≤ 4294967295)) = b1 at *
  generalize (decide (0 ≤ y.cp) && decide (y.cp ≤ 9007199254740991)) = b2 at *
  subst hbk
  have H1 := Lib.hid W1
  have H2 := Lib.hid W2
  have F := Lib.hid (And.intro hal hxs)
  obtain ⟨z0, z1, z2⟩ := hxs.cells
  unfold Cy.v
  clear W1 W2 hal hxs
  go_enter Try.func67, Try.ntmps67
  go_wp2_with fail
  refine (H1.out _).mono ?_
  rintro e W1 ⟨rfl, hw1⟩
  generalize w.alloc (.cells #[.int .i64 y.id, .int .i64 y.cp, .bool y.dr] 52) = W at *
  subst W1
  cases b1 with
  | false =>
    go_wp2_with fail
    go_ret
    exact ⟨rfl, F.out.1⟩
  | true =>
    go_wp2_with fail
    refine (H2.out _).mono ?_
    rintro e W1 ⟨rfl, hw1⟩
    subst W1
    go_wp2_with fail
    go_ret
    exact ⟨by rw [Bool.true_and]; rfl, F.out.1⟩
theorem all_take_s {α : Type} [Inhabited α] (M : List α) (p : α → Bool) (k : Nat) (h : k < M.length) : (M.take (k + 1)).all p = ((M.take k).all p && p (M.getD k default)) := by
  rw [List.take_succ_eq_append_getElem h, List.all_append]
  simp [List.getD_eq_getElem?_getD, h]
set_option maxRecDepth 100000 in
set_option maxHeartbeats 1000000 in
theorem cindex_any {w : World} {oa : Option Addr} {n c : Nat} {L : List Cy} (h : RCy.Sl w oa n c L) : Calls Try.prog 88 #[.slice oa n c, .func (.func 67) #[] #[]] w fun e w' => (∃ k : Int, e = .returned (.int .i64 k) ∧ decide (0 ≤ k) = !(L.all okC)) ∧ Below w.heap.size w w' := by
  have HL := Lib.hid h.len
  have F := Lib.hid h
  have hmax := h.max
  clear h
  go_enter Try.func88, Try.ntmps88
  go_wp2_with fail
  go_loopw [8] (fun iv wr => ∃ i : Nat, i ≤ n ∧ iv = .int .i64 i ∧ (L.take i).all okC = true ∧ Below w.heap.size w wr) (fun iv _ => n - (intOf iv).toNat)
  case atStart => exact ⟨0, Nat.zero_le _, rfl, rfl, Below.refl _ _⟩
  case round =>
    obtain ⟨i, hi, rfl, hall, hb⟩ := hrel
    obtain ⟨w2, rfl⟩ : ∃ w2 : World, w2 = wr := ⟨_, rfl⟩
    by_cases hlt : i < n
    · have hil : ((i : Int) < (n : Int)) = True := by simp; omega
      have hw3 := wrapS hlt hmax
      have hlen : L.length = n := HL.out.symm
      obtain ⟨b0, o0, rfl, hbb, hat⟩ := (F.out.keep hb).at hlt
      have c0 := hat 0 (by decide)
      have c1 := hat 1 (by decide)
      have c2 := hat 2 (by decide)
      simp only [RCy, Nat.add_zero, List.getElem?_cons_zero, List.getElem?_cons_succ] at c0 c1 c2
      have t1 := all_take_s L okC i (by omega)
      rw [hall, Bool.true_and] at t1
      have hmem : L.getD i default ∈ L := getD_mem (by omega)
      have hox := codd_any (L.getD i default) w2
      generalize L.getD i default = y at *
      obtain ⟨bo, hbo⟩ : ∃ bo, okC y = bo := ⟨_, rfl⟩
      rw [hbo] at hox t1
      have HX := Lib.hid hox
      have HB := Lib.hid hb
      have HT := Lib.hid (And.intro t1 (And.intro hmem hbo))
      clear hox hb hat hlen t1 hmem hall hbo
      go_wp2_with fail
      refine (HX.out).mono ?_
      rintro e W3 ⟨rfl, hb3⟩
      have HB3 := Lib.hid (bcall HB.out (Nat.le_refl _) hb3)
      clear hb3 HB c0 c1 c2 HX
      cases bo with
      | true =>
        rw [Bool.not_true]
        go_wp2_with fail
        exact ⟨⟨i + 1, hlt, by first | rw [hw3] | rw [Int.natCast_succ], HT.out.1, HB3.out⟩, by first | (rw [hw3]; exact mSucc hlt) | (rw [← Int.natCast_succ]; exact mSucc hlt)⟩
      | false =>
        rw [Bool.not_false]
        go_wp2_with fail
        go_ret
        have hno : L.all okC = false := by
          rw [List.all_eq_false]
          exact ⟨_, HT.out.2.1, by simp [HT.out.2.2]⟩
        exact ⟨⟨_, rfl, by rw [hno]; simp⟩, HB3.out⟩
    · obtain rfl : n = i := by omega
      have hil : ((n : Int) < (n : Int)) = False := by simp
      have HB := Lib.hid hb
      rw [List.take_of_length_le (by rw [HL.out]; exact Nat.le_refl _)] at hall
      have HA := Lib.hid hall
      clear hb hall
      go_wp2_with fail
      go_ret
      exact ⟨⟨_, rfl, by rw [HA.out]; rfl⟩, HB.out⟩
set_option maxRecDepth 100000 in
theorem ccontains_any {w : World} {oa : Option Addr} {n c : Nat} {L : List Cy} (h : RCy.Sl w oa n c L) : Calls Try.prog 68 #[.slice oa n c, .func (.func 67) #[] #[]] w fun e w' => e = .returned (.bool (!(L.all okC))) ∧ Below w.heap.size w w' := by
  have HK := Lib.hid (cindex_any h)
  clear h
  go_enter Try.func68, Try.ntmps68
  go_wp2_with fail
  refine (HK.out).mono ?_
  rintro e w1 ⟨⟨k, rfl, hk⟩, hb⟩
  have HB := Lib.hid (And.intro hk hb)
  clear hk hb
  go_wp2_with fail
  go_ret
  exact ⟨ret_bool (by rw [← HB.out.1]), HB.out.2⟩
end Go.Proofs.Ytgainkgbodmciaa
/- capa.Check. -/
namespace Go.Proofs.Ytgainkgbodmciaa
open Go.RowKit
open Go.ChangeMaps (setBlock)

def CsS (b : Nat) (src seq : Int) (oa : Option Addr) (n c : Nat) (w : World) : Prop := w.heap[b]? = some (.cells #[.int .i64 src, .int .i64 seq, .slice oa n c] 66)
theorem CsS.cells {b : Nat} {src seq : Int} {oa : Option Addr} {n c : Nat} {w : World} (h : CsS b src seq oa n c w) : w.cell? ⟨b, 0, none⟩ = some (.int .i64 src) ∧ w.cell? ⟨b, 1, none⟩ = some (.int .i64 seq) ∧ w.cell? ⟨b, 2, none⟩ = some (.slice oa n c) := ⟨cell_of h rfl, cell_of h rfl, cell_of h rfl⟩
theorem CsS.on {b : Nat} {src seq : Int} {oa : Option Addr} {n c : Nat} {w w' : World} (h : CsS b src seq oa n c w) (hb : Below w.heap.size w w') : CsS b src seq oa n c w' := (hb.block _ (lt_of_blk h)).trans h
set_option maxRecDepth 100000 in
set_option maxHeartbeats 2000000 in
theorem ccheck_any {w : World} {src seq : Int} {oa : Option Addr} {n c : Nat} {L : List Cy} (h : Cys w oa n c L) (b : Bool) (hbk : okCs src seq L = b) : Calls Try.prog 42 #[.agg #[.int .i64 src, .int .i64 seq, .slice oa n c]] w fun e w' => e = .returned (.int .i64 (bif b then 0 else 1)) ∧ Below w.heap.size w w' := by
  have HL := Lib.hid h.sl.len
  have F := Lib.hid h
  have hmax := h.sl.max
  have hal := ((Below.refl w.heap.size w).alloc (Nat.le_refl _) (.cells #[.int .i64 src, .int .i64 seq, .slice oa n c] 66)).alloc (by simp) (.map #[] 0)
  have hx0 : CsS w.heap.size src seq oa n c ((w.alloc (.cells #[.int .i64 src, .int .i64 seq, .slice oa n c] 66)).alloc (.map #[] 0)) := hold (hnew _ _)
  have m3 : MR.MapAt IN ((w.alloc (.cells #[.int .i64 src, .int .i64 seq, .slice oa n c] 66)).alloc (.map #[] 0)) (w.heap.size + 1) [] 0 := MR.mapAt_made IN (hnewAt (by simp))
  have G := Lib.hid (And.intro m3 (And.intro hx0 hal))
  unfold okCs at hbk
  have W1 := fun W => cwithin_any src 0 15 W
  have W2 := fun W => cwithin_any seq 0 9007199254740991 W
  generalize (decide (0 ≤ src) && decide (src ≤ 15)) = b1 at *
  generalize (decide (0 ≤ seq) && decide (seq ≤ 9007199254740991)) = b2 at *
  have HW1 := Lib.hid W1
  have HW2 := Lib.hid W2
  have HBK := Lib.hid hbk
  obtain ⟨z0, z1, z2⟩ := hx0.cells
  clear h hal hx0 m3 hbk W1 W2
  have hmm := @run_makeMap Try.prog
  go_enter Try.func42, Try.ntmps42
  go_wp2_with fail
  clear hmm z0 z1 z2
  generalize ((w.alloc (.cells #[.int .i64 src, .int .i64 seq, .slice oa n c] 66)).alloc (.map #[] 0)) = W at *
  go_loopw [12] (fun iv wr => ∃ (i : Nat) (es : List (MR.Ent Int)) (c3 : Nat), i ≤ n ∧ iv = .int .i64 i ∧ es.map (·.1) = idsOf ((L.take i).map Cy.id) ∧ MR.MapAt IN wr (w.heap.size + 1) es c3 ∧ CsS w.heap.size src seq oa n c wr ∧ Below w.heap.size w wr) (fun iv _ => n - (intOf iv).toNat)
  case atStart => exact ⟨0, [], 0, Nat.zero_le _, rfl, rfl, G.out.1, G.out.2.1, G.out.2.2⟩
  case round =>
    obtain ⟨i, es, c3, hi, rfl, hes, hm3, hx0, hb⟩ := hrel
    obtain ⟨w2, rfl⟩ : ∃ w2 : World, w2 = wr := ⟨_, rfl⟩
    by_cases hlt : i < n
    · have hil : ((i : Int) < (n : Int)) = True := by simp; omega
      have hw3 := wrapS hlt hmax
      have hlen : L.length = n := HL.out.symm
      obtain ⟨b0, o0, rfl, hbb, hat⟩ := (F.out.keep hb).sl.at hlt
      have c0 := hat 0 (by decide)
      have c1 := hat 1 (by decide)
      have c2 := hat 2 (by decide)
      simp only [RCy, Nat.add_zero, List.getElem?_cons_zero, List.getElem?_cons_succ] at c0 c1 c2
      have hbd := F.out.ok _ (getD_mem (i := i) (by omega))
      have t1 := idsOf_succ (L := L) (i := i) (by omega)
      rw [← hes] at t1
      generalize L.getD i default = y at *
      have hal := (Below.refl w2.heap.size w2).alloc (Nat.le_refl _) (.cells #[.int .i64 y.id, .int .i64 y.cp, .bool y.dr] 52)
      have hxs : CyS w2.heap.size y (w2.alloc (.cells #[.int .i64 y.id, .int .i64 y.cp, .bool y.dr] 52)) := hnew _ _
      have l3 : w.heap.size + 1 < w2.heap.size := lt_of_blk hm3.blk
      have hm3a : MR.MapAt IN (w2.alloc (.cells #[.int .i64 y.id, .int .i64 y.cp, .bool y.dr] 52)) (w.heap.size + 1) es c3 := hm3.blk_iff IN (hal.block _ l3)
      obtain ⟨O1, hO1⟩ : ∃ O, O = Obj.map (MR.ents IN.enc (MR.put es y.id (.bool true) c3)).toArray (MR.clock' es y.id c3) := ⟨_, rfl⟩
      have hu1 : (Instr.mapUpdate 130 (.map (some (w.heap.size + 1))) (.int .i64 y.id) (.bool true)).run Try.prog (w2.alloc (.cells #[.int .i64 y.id, .int .i64 y.cp, .bool y.dr] 52)) = .ok () (setBlock (w2.alloc (.cells #[.int .i64 y.id, .int .i64 y.cp, .bool y.dr] 52)) (w.heap.size + 1) O1) := by rw [hO1]; exact (MR.run_update IN hm3a hbd Try.underlying130 (.bool true)).1
      have hm3b : MR.MapAt IN (setBlock (w2.alloc (.cells #[.int .i64 y.id, .int .i64 y.cp, .bool y.dr] 52)) (w.heap.size + 1) O1) (w.heap.size + 1) (MR.put es y.id (.bool true) c3) (MR.clock' es y.id c3) := by rw [hO1]; exact (MR.run_update IN hm3a hbd Try.underlying130 (.bool true)).2
      have hx1 : CsS w.heap.size src seq (some ⟨b0, o0, none⟩) n c (setBlock (w2.alloc (.cells #[.int .i64 y.id, .int .i64 y.cp, .bool y.dr] 52)) (w.heap.size + 1) O1) := (setBlock_other (by omega)).trans (hx0.on hal)
      have hbc : Below w.heap.size w (setBlock (w2.alloc (.cells #[.int .i64 y.id, .int .i64 y.cp, .bool y.dr] 52)) (w.heap.size + 1) O1) := below_setBlock (bcall hb (Nat.le_refl _) hal) (by omega)
      have H := Lib.hid (And.intro ((put_ids (.bool true) c3).trans t1.symm) (And.intro hm3b (And.intro hx1 hbc)))
      obtain ⟨z0, z1, z2⟩ := hxs.cells
      clear hO1 hm3a hm3b hbc hxs hal hm3 hb hbd t1 hat hes hlen hx0 hx1
      go_wp2_with fail
      exact ⟨⟨i + 1, _, _, hlt, by first | rw [hw3] | rw [Int.natCast_succ], H.out.1, H.out.2.1, H.out.2.2.1, H.out.2.2.2⟩, by first | (rw [hw3]; exact mSucc hlt) | (rw [← Int.natCast_succ]; exact mSucc hlt)⟩
    · obtain rfl : n = i := by omega
      have hil : ((n : Int) < (n : Int)) = False := by simp
      have hl3 := fun ty => MR.run_len IN hm3 Try.underlying130 ty
      have hlen := HL.out
      rw [List.take_of_length_le (by omega)] at hes
      have e3 : es.length = (idsOf (L.map Cy.id)).length := by have := congrArg List.length hes; rwa [List.length_map] at this
      have hid := idsOf_len (L.map Cy.id)
      rw [List.length_map, ← hlen, ← e3] at hid
      generalize es.length = m at *
      obtain ⟨z0, z1, z2⟩ := hx0.cells
      have HB := Lib.hid hb
      have HX := Lib.hid hx0
      have HI := Lib.hid hid
      have HK := Lib.hid (ccontains_any (F.out.keep hb).sl)
      rw [← hlen] at HBK
      generalize L.all okC = bo at *
      have hmn := hid.2.2
      clear hb hm3 hes e3 hx0 hlen hid
      go_wp2_with fail
      refine (HW1.out _).mono ?_
      rintro e W3 ⟨rfl, hw3⟩
      subst W3
      cases b1 with
      | false =>
        have hr := HBK.out
        rw [Bool.false_and, Bool.false_and, Bool.false_and, Bool.false_and] at hr
        subst hr
        go_wp2_with fail
        go_ret
        exact ⟨rfl, HB.out⟩
      | true =>
        go_wp2_with fail
        refine (HW2.out _).mono ?_
        rintro e W3 ⟨rfl, hw3⟩
        subst W3
        cases b2 with
        | false =>
          have hr := HBK.out
          rw [Bool.true_and, Bool.false_and, Bool.false_and, Bool.false_and] at hr
          subst hr
          go_wp2_with fail
          go_ret
          exact ⟨rfl, HB.out⟩
        | true =>
          by_cases h256 : n ≤ 256
          · have h25 : ((256 : Int) < (n : Int)) = False := by simp; omega
            by_cases hnd : (L.map Cy.id).Nodup
            · have hmm : m = n := HI.out.1 hnd
              have hlt1 : (m < n) = False := by simp; omega
              have HND := Lib.hid hnd
              have H256 := Lib.hid h256
              clear hnd h256 hmm
              go_wp2_with fail
              refine (HK.out).mono ?_
              rintro e W3 ⟨rfl, hb3⟩
              have HB3 := Lib.hid (bcall HB.out (Nat.le_refl _) hb3)
              have hr := HBK.out
              rw [decide_eq_true H256.out, decide_eq_true HND.out, Bool.true_and, Bool.true_and, Bool.true_and, Bool.true_and] at hr
              subst hr
              clear hb3 z0 z1 z2 hl3
              cases bo with
              | false =>
                go_wp2_with fail
                go_ret
                exact ⟨rfl, HB3.out⟩
              | true =>
                go_wp2_with fail
                go_ret
                exact ⟨rfl, HB3.out⟩
            · have hlt1 : (m < n) = True := by have := HI.out.2.1 hnd; simp; omega
              have hr := HBK.out
              rw [decide_eq_false hnd, Bool.and_false, Bool.false_and] at hr
              subst hr
              clear hnd h256
              go_wp2_with fail
              go_ret
              exact ⟨rfl, HB.out⟩
          · have h25 : ((256 : Int) < (n : Int)) = True := by simp; omega
            have hr := HBK.out
            rw [decide_eq_false h256, Bool.and_false, Bool.false_and, Bool.false_and] at hr
            subst hr
            clear h256
            go_wp2_with fail
            go_ret
            exact ⟨rfl, HB.out⟩
end Go.Proofs.Ytgainkgbodmciaa
/- The reference's Check of what a source says. -/
namespace Go.Proofs.Ytgainkgbodmciaa
open Go.RowKit

theorem okCs_false {src seq : Int} {L : List Cy} (h : ¬ ((0 ≤ src ∧ src ≤ 15) ∧ (0 ≤ seq ∧ seq ≤ 9007199254740991) ∧ L.length ≤ 256)) : okCs src seq L = false := by
  rw [Bool.eq_false_iff]
  intro h1
  unfold okCs at h1
  simp only [Bool.and_eq_true, decide_eq_true_eq] at h1
  exact h ⟨h1.1.1.1.1, h1.1.1.1.2, h1.1.1.2⟩
theorem okCs_odd {src seq : Int} {L : List Cy} {y : Cy} (hy : y ∈ L) (h : okC y = false) : okCs src seq L = false := by
  unfold okCs
  rw [show L.all okC = false from by rw [List.all_eq_false]; exact ⟨y, hy, by simp [h]⟩, Bool.and_false]
theorem okCs_dup {src seq : Int} {L : List Cy} {i k : Nat} (hk : k < i) (hi : i < L.length) (h : (L.getD k default).id = (L.getD i default).id) : okCs src seq L = false := by
  unfold okCs
  have : ¬ (L.map Cy.id).Nodup := by
    intro hn
    rw [List.nodup_iff_pairwise_ne, List.pairwise_iff_getElem] at hn
    refine hn k i (by simp; omega) (by simpa using hi) hk ?_
    simp only [List.getElem_map]
    simp only [List.getD_eq_getElem?_getD, List.getElem?_eq_getElem (show k < L.length by omega), List.getElem?_eq_getElem hi, Option.getD_some] at h
    exact h
  rw [decide_eq_false this, Bool.and_false, Bool.false_and]
theorem okCs_true {src seq : Int} {L : List Cy} (h : (0 ≤ src ∧ src ≤ 15) ∧ (0 ≤ seq ∧ seq ≤ 9007199254740991) ∧ L.length ≤ 256) (ha : L.all okC = true) (hn : (L.map Cy.id).Nodup) : okCs src seq L = true := by
  unfold okCs
  rw [ha]
  simp [h.1.1, h.1.2, h.2.1.1, h.2.1.2, h.2.2, hn]
theorem okC_false {y : Cy} (h : ¬ ((0 ≤ y.id ∧ y.id ≤ 4294967295) ∧ (0 ≤ y.cp ∧ y.cp ≤ 9007199254740991))) : okC y = false := by
  rw [Bool.eq_false_iff]
  intro h1
  unfold okC at h1
  simp only [Bool.and_eq_true, decide_eq_true_eq] at h1
  exact h h1
theorem okC_true {y : Cy} (h : (0 ≤ y.id ∧ y.id ≤ 4294967295) ∧ (0 ≤ y.cp ∧ y.cp ≤ 9007199254740991)) : okC y = true := by
  unfold okC
  simp [h.1.1, h.1.2, h.2.1, h.2.2]
theorem nodup_snoc {L : List Cy} {i : Nat} (hi : i < L.length) (hn : ((L.take i).map Cy.id).Nodup) (h : ∀ k, k < i → (L.getD k default).id ≠ (L.getD i default).id) : ((L.take (i + 1)).map Cy.id).Nodup := by
  rw [take_map_succ Cy.id L hi, List.nodup_append]
  refine ⟨hn, by simp, fun a ha b hb => ?_⟩
  simp only [List.mem_singleton] at hb
  subst hb
  obtain ⟨x, hx, rfl⟩ := List.mem_map.1 ha
  obtain ⟨k, hk, rfl⟩ := List.mem_iff_getElem.1 hx
  simp only [List.length_take] at hk
  have := h k (by omega)
  simp only [List.getD_eq_getElem?_getD, List.getElem?_eq_getElem (show k < L.length by omega), Option.getD_some] at this
  rw [List.getElem_take]
  simpa [List.getD_eq_getElem?_getD] using this
set_option maxRecDepth 100000 in
set_option maxHeartbeats 2000000 in
theorem rccheck_any {w : World} {src seq : Int} {oa : Option Addr} {n c : Nat} {L : List Cy} (h : RCy.Sl w oa n c L) : Calls Try.prog 44 #[.agg #[.int .i64 src, .int .i64 seq, .slice oa n c]] w fun e w' => e = .returned (.bool (okCs src seq L)) ∧ Below w.heap.size w w' := by
  have HL := Lib.hid h.len
  have F := Lib.hid h
  have hmax := h.max
  have hal := (Below.refl w.heap.size w).alloc (Nat.le_refl _) (.cells #[.int .i64 src, .int .i64 seq, .slice oa n c] 66)
  have hx0 : CsS w.heap.size src seq oa n c (w.alloc (.cells #[.int .i64 src, .int .i64 seq, .slice oa n c] 66)) := hnew _ _
  have G := Lib.hid (And.intro hx0 hal)
  obtain ⟨z0, z1, z2⟩ := hx0.cells
  clear h hal hx0
  have hll1 : n ≤ L.length := Nat.le_of_eq HL.out
  have hll2 : L.length ≤ n := Nat.le_of_eq HL.out.symm
  by_cases g1 : src < 0
  · have g1t : (src < 0) = True := by simp; omega
    go_enter Try.func44, Try.ntmps44
    go_wp2_with fail
    go_ret
    exact ⟨ret_bool (okCs_false (by omega)).symm, G.out.2⟩
  have g1f : (src < 0) = False := by simp; omega
  by_cases g2 : 15 < src
  · have g2t : (15 < src) = True := by simp; omega
    go_enter Try.func44, Try.ntmps44
    go_wp2_with fail
    go_ret
    exact ⟨ret_bool (okCs_false (by omega)).symm, G.out.2⟩
  have g2f : (15 < src) = False := by simp; omega
  by_cases g3 : seq < 0
  · have g3t : (seq < 0) = True := by simp; omega
    go_enter Try.func44, Try.ntmps44
    go_wp2_with fail
    go_ret
    exact ⟨ret_bool (okCs_false (by omega)).symm, G.out.2⟩
  have g3f : (seq < 0) = False := by simp; omega
  by_cases g4 : 9007199254740991 < seq
  · have g4t : (9007199254740991 < seq) = True := by simp; omega
    go_enter Try.func44, Try.ntmps44
    go_wp2_with fail
    go_ret
    exact ⟨ret_bool (okCs_false (by omega)).symm, G.out.2⟩
  have g4f : (9007199254740991 < seq) = False := by simp; omega
  by_cases g5 : (256 : Int) < (n : Int)
  · have g5t : ((256 : Int) < (n : Int)) = True := by simp; omega
    go_enter Try.func44, Try.ntmps44
    go_wp2_with fail
    go_ret
    exact ⟨ret_bool (okCs_false (by omega)).symm, G.out.2⟩
  have g5f : ((256 : Int) < (n : Int)) = False := by simp; omega
  go_enter Try.func44, Try.ntmps44
  go_wp2_with fail
  generalize (w.alloc (.cells #[.int .i64 src, .int .i64 seq, .slice oa n c] 66)) = W at *
  have HOK := Lib.hid (show (0 ≤ src ∧ src ≤ 15) ∧ (0 ≤ seq ∧ seq ≤ 9007199254740991) ∧ L.length ≤ 256 from ⟨⟨by omega, by omega⟩, ⟨by omega, by omega⟩, by omega⟩)
  clear hll1 hll2 g1 g2 g3 g4 g5 g1f g2f g3f g4f g5f z0 z1 z2
  go_loopw [3] (fun iv wr => ∃ i : Nat, i ≤ n ∧ iv = .int .i64 i ∧ (L.take i).all okC = true ∧ ((L.take i).map Cy.id).Nodup ∧ CsS w.heap.size src seq oa n c wr ∧ Below w.heap.size w wr) (fun iv _ => n - (intOf iv).toNat)
  case atStart => exact ⟨0, Nat.zero_le _, rfl, rfl, List.nodup_nil, G.out.1, G.out.2⟩
  case round =>
    obtain ⟨i, hi, rfl, hall, hnd, hx0, hb⟩ := hrel
    obtain ⟨w2, rfl⟩ : ∃ w2 : World, w2 = wr := ⟨_, rfl⟩
    by_cases hlt : i < n
    · have hil : ((i : Int) < (n : Int)) = True := by simp; omega
      have hw3 := wrapS hlt hmax
      have hlen : L.length = n := HL.out.symm
      obtain ⟨b0, o0, rfl, hbb, hat⟩ := (F.out.keep hb).at hlt
      have c0 := hat 0 (by decide)
      have c1 := hat 1 (by decide)
      have c2 := hat 2 (by decide)
      simp only [RCy, Nat.add_zero, List.getElem?_cons_zero, List.getElem?_cons_succ] at c0 c1 c2
      have t1 := all_take_s L okC i (by omega)
      rw [hall, Bool.true_and] at t1
      have hmem : L.getD i default ∈ L := getD_mem (by omega)
      obtain ⟨y, hy⟩ : ∃ y, L.getD i default = y := ⟨_, rfl⟩
      rw [hy] at t1 hmem c0 c1 c2
      have hal := (Below.refl w2.heap.size w2).alloc (Nat.le_refl _) (.cells #[.int .i64 y.id, .int .i64 y.cp, .bool y.dr] 52)
      have hxs : CyS w2.heap.size y (w2.alloc (.cells #[.int .i64 y.id, .int .i64 y.cp, .bool y.dr] 52)) := hnew _ _
      have HB := Lib.hid (And.intro (bcall hb (Nat.le_refl _) hal) (And.intro (hx0.on hal) hxs))
      have HT := Lib.hid (And.intro t1 (And.intro hmem (And.intro hy hnd)))
      obtain ⟨z0, z1, z2⟩ := hx0.cells
      obtain ⟨y0, y1, y2⟩ := hxs.cells
      obtain ⟨x0, x1, x2⟩ := (hx0.on hal).cells
      clear hal hb hxs hat hall hnd t1 hmem hy hx0 hlen
      by_cases e1 : y.id < 0
      · have e1t : (y.id < 0) = True := by simp; omega
        go_wp2_with fail
        go_ret
        exact ⟨ret_bool (okCs_odd HT.out.2.1 (okC_false (by omega))).symm, HB.out.1⟩
      have e1f : (y.id < 0) = False := by simp; omega
      by_cases e2 : 4294967295 < y.id
      · have e2t : (4294967295 < y.id) = True := by simp; omega
        go_wp2_with fail
        go_ret
        exact ⟨ret_bool (okCs_odd HT.out.2.1 (okC_false (by omega))).symm, HB.out.1⟩
      have e2f : (4294967295 < y.id) = False := by simp; omega
      by_cases e3 : y.cp < 0
      · have e3t : (y.cp < 0) = True := by simp; omega
        go_wp2_with fail
        go_ret
        exact ⟨ret_bool (okCs_odd HT.out.2.1 (okC_false (by omega))).symm, HB.out.1⟩
      have e3f : (y.cp < 0) = False := by simp; omega
      by_cases e4 : 9007199254740991 < y.cp
      · have e4t : (9007199254740991 < y.cp) = True := by simp; omega
        go_wp2_with fail
        go_ret
        exact ⟨ret_bool (okCs_odd HT.out.2.1 (okC_false (by omega))).symm, HB.out.1⟩
      have e4f : (9007199254740991 < y.cp) = False := by simp; omega
      go_wp2_with fail
      have hok : okC y = true := okC_true ⟨⟨by omega, by omega⟩, by omega, by omega⟩
      have HOK2 := Lib.hid hok
      generalize w2.alloc (.cells #[.int .i64 y.id, .int .i64 y.cp, .bool y.dr] 52) = W2 at *
      generalize w2.heap.size = q2 at *
      clear hok e1 e2 e3 e4 e1f e2f e3f e4f z0 z1 z2 y0 y1 y2 x0 x1 x2 c0 c1 c2
      go_loopw [5] (fun kv wr => ∃ k : Nat, k ≤ i ∧ kv = .int .i64 k ∧ (∀ j, j < k → (L.getD j default).id ≠ y.id) ∧ Below w.heap.size w wr ∧ CsS w.heap.size src seq (some ⟨b0, o0, none⟩) n c wr ∧ CyS q2 y wr) (fun kv _ => i - (intOf kv).toNat)
      case atStart => exact ⟨0, Nat.zero_le _, rfl, fun j hj => by omega, HB.out⟩
      case round =>
        obtain ⟨k, hk, rfl, hne, hb, hx0, hxs⟩ := hrel
        obtain ⟨w3, rfl⟩ : ∃ w3 : World, w3 = wr := ⟨_, rfl⟩
        have HN := Lib.hid hne
        clear hne
        by_cases hkt : k < i
        · have hki : ((k : Int) < (i : Int)) = True := by simp; omega
          have hkn : ((k : Int) < (n : Int)) = True := by simp; omega
          have hk0 : ((0 : Int) ≤ (k : Int)) = True := by simp
          have hd := (Below.refl w3.heap.size w3).drew
          have hwk := wrapS hkt (by omega)
          have hkn' : k < n := by omega
          obtain ⟨b1, o1, e1, hbb1, hat⟩ := (F.out.keep (bcall hb (Nat.le_refl _) hd)).at hkn'
          obtain ⟨rfl, rfl⟩ : b0 = b1 ∧ o0 = o1 := by simp only [Option.some.injEq, Addr.mk.injEq] at e1; exact ⟨e1.1, e1.2.1⟩
          have c0 := hat 0 (by decide)
          simp only [RCy, Nat.add_zero, List.getElem?_cons_zero] at c0
          obtain ⟨u, hu⟩ : ∃ u, (L.getD k default).id = u := ⟨_, rfl⟩
          rw [hu] at c0
          have F3 := Lib.hid (And.intro (bcall hb (Nat.le_refl _) hd) (And.intro (hx0.on hd) (And.intro (hxs.on hd) hu)))
          obtain ⟨z0, z1, z2⟩ := (hx0.on hd).cells
          obtain ⟨y0, y1, y2⟩ := (hxs.on hd).cells
          clear hd hb hx0 hxs hat hbb1 hu
          obtain ⟨be, hbe⟩ : ∃ be, (u == y.id) = be := ⟨_, rfl⟩
          have HE := Lib.hid hbe
          go_wp2_with fail
          refine wp_region_quiet_tail (fun w' => w' = w3.drew) 8 (by kernel_rfl) (by kernel_rfl) rfl ?_
          simp only [List.take_succ_cons, List.take_zero, List.drop_succ_cons, List.drop_zero]
          iterate 8 ((with_reducible refine wpQuiet_step (fun K hK => ?_)); go_simp; first | ((with_reducible refine hK _ ?_); clear hK K) | (apply Exists.intro; (with_reducible refine ⟨fun w' hw' => ?_, hK _ ?_⟩); (subst hw'; go_simp; first | exact rfl | exact ⟨rfl, rfl⟩); clear hK K))
          refine wpQuiet_nil ?_
          rintro _ rfl
          clear c0 z0 z1 z2 y0 y1 y2 hk0 hkn
          cases be with
          | true =>
            go_wp2_with fail
            go_ret
            have := okCs_dup (src := src) (seq := seq) (L := L) hkt (by rw [← HL.out]; exact hlt) (by rw [F3.out.2.2.2, HT.out.2.2.1]; simpa using HE.out)
            exact ⟨ret_bool this.symm, F3.out.1⟩
          | false =>
            go_wp2_with fail
            exact ⟨⟨k + 1, hkt, by first | rw [hwk] | rw [Int.natCast_succ], fun j hj => by
              rcases Nat.lt_succ_iff_lt_or_eq.1 hj with h | rfl
              · exact HN.out j h
              · rw [F3.out.2.2.2]; simpa using HE.out, F3.out.1, F3.out.2.1, F3.out.2.2.1⟩, by first | (rw [hwk]; exact mSucc hkt) | (rw [← Int.natCast_succ]; exact mSucc hkt)⟩
        · obtain rfl : i = k := by omega
          have hki : ((i : Int) < (i : Int)) = False := by simp
          have F3 := Lib.hid (And.intro hb hx0)
          have hnn := nodup_snoc (L := L) (i := i) (by rw [← HL.out]; exact hlt) HT.out.2.2.2 (fun j hj => by rw [HT.out.2.2.1]; exact HN.out j hj)
          have HNN := Lib.hid hnn
          clear hb hx0 hxs hnn
          go_wp2_with fail
          exact ⟨⟨i + 1, hlt, by first | rw [hw3] | rw [Int.natCast_succ], by rw [HT.out.1]; exact HOK2.out, HNN.out, F3.out.2, F3.out.1⟩, by first | (rw [hw3]; exact mSucc hlt) | (rw [← Int.natCast_succ]; exact mSucc hlt)⟩
    · obtain rfl : n = i := by omega
      have hil : ((n : Int) < (n : Int)) = False := by simp
      rw [List.take_of_length_le (by rw [HL.out]; exact Nat.le_refl _)] at hall hnd
      have HB := Lib.hid hb
      have HR := Lib.hid (okCs_true HOK.out hall hnd)
      obtain ⟨z0, z1, z2⟩ := hx0.cells
      clear hb hall hnd hx0
      go_wp2_with fail
      go_ret
      exact ⟨ret_bool HR.out.symm, HB.out⟩
end Go.Proofs.Ytgainkgbodmciaa
/- What Find and Get tell, with memory out of sight; Option. -/
namespace Go.Proofs.Ytgainkgbodmciaa
open Go.RowKit

def If.z : If := ⟨0, 0, 0, 0, 0⟩
def Cy.z : Cy := ⟨0, 0, false⟩
/-- Find of what lies behind hv tells F -/
def Finds (w : World) (hv : Value) (F : Int → Int → Option If) : Prop := ∀ W, Below w.heap.size w W → ∀ r nx : Int, 0 ≤ nx → nx < 4294967296 → Calls Try.prog 34 #[hv, .int .i64 r, .int .u32 nx] W fun e w' => e = .returned (.tuple #[((F r nx).getD If.z).v, .bool (F r nx).isSome]) ∧ Below W.heap.size W w'
def Gets (w : World) (xv : Value) (G : Int → Option Cy) : Prop := ∀ W, Below w.heap.size w W → ∀ id : Int, IN.ok id → Calls Try.prog 11 #[xv, .int .i64 id] W fun e w' => e = .returned (.tuple #[((G id).getD Cy.z).v, .bool (G id).isSome]) ∧ Below W.heap.size W w'
theorem Finds.keep {w w' : World} {hv : Value} {F : Int → Int → Option If} (H : Finds w hv F) (hb : Below w.heap.size w w') : Finds w' hv F := fun W hW => H W (bcall hb (Nat.le_refl _) hW)
theorem Gets.keep {w w' : World} {xv : Value} {G : Int → Option Cy} (H : Gets w xv G) (hb : Below w.heap.size w w') : Gets w' xv G := fun W hW => H W (bcall hb (Nat.le_refl _) hW)
set_option maxRecDepth 100000 in
set_option maxHeartbeats 1000000 in
theorem find_nil (r nx : Int) (w : World) : Calls Try.prog 34 #[.pointer none, .int .i64 r, .int .u32 nx] w fun e w' => e = .returned (.tuple #[.agg #[.int .i64 0, .int .i64 0, .int .u32 0, .int .i64 0, .int .i64 0], .bool false]) ∧ Below w.heap.size w w' := by
  go_enter Try.func34, Try.ntmps34
  go_wp2_with (with_reducible refine halt_store 83 (x := .tmp 6) rfl ?_)
  refine Halted.go ?_
  refine store_whole rfl 83 _ _ rfl w.heap.size #[.int .i64 0, .int .i64 0, .int .u32 0, .int .i64 0, .int .i64 0] rfl rfl (hnew _ _) rfl (by kernel_rfl) (by simp [Value.oneCell']) ?_
  intro Wz hwz hsz
  have HZ := Lib.hid (And.intro hwz (Below.trans ((Below.refl w.heap.size w).alloc (Nat.le_refl _) _) (hsz.below (Nat.le_refl _))))
  clear hwz hsz
  go_wp2_with fail
  refine ret_cell2 rfl rfl rfl HZ.out.1 Try.underlying83 rfl (by kernel_rfl) ?_
  exact ⟨rfl, HZ.out.2⟩
set_option maxRecDepth 100000 in
set_option maxHeartbeats 1000000 in
theorem find_out (h : Nat) (r nx : Int) (hr : ¬ (0 ≤ r ∧ r ≤ 15)) (w : World) : Calls Try.prog 34 #[.pointer (some ⟨h, 0, none⟩), .int .i64 r, .int .u32 nx] w fun e w' => e = .returned (.tuple #[.agg #[.int .i64 0, .int .i64 0, .int .u32 0, .int .i64 0, .int .i64 0], .bool false]) ∧ Below w.heap.size w w' := by
  have hb : (decide (0 ≤ r) && decide (r ≤ 15)) = false := by simpa using hr
  have HW := Lib.hid (fun W => by have := hwithin_any r 0 15 W; rw [hb] at this; exact this)
  clear hb hr
  go_enter Try.func34, Try.ntmps34
  go_wp2_with fail
  refine (HW.out _).mono ?_
  rintro e W ⟨rfl, hW⟩
  subst W
  go_wp2_with (with_reducible refine halt_store 83 (x := .tmp 6) rfl ?_)
  refine Halted.go ?_
  refine store_whole rfl 83 _ _ rfl w.heap.size #[.int .i64 0, .int .i64 0, .int .u32 0, .int .i64 0, .int .i64 0] rfl rfl (hnew _ _) rfl (by kernel_rfl) (by simp [Value.oneCell']) ?_
  intro Wz hwz hsz
  have HZ := Lib.hid (And.intro hwz (Below.trans ((Below.refl w.heap.size w).alloc (Nat.le_refl _) _) (hsz.below (Nat.le_refl _))))
  clear hwz hsz
  go_wp2_with fail
  refine ret_cell2 rfl rfl rfl HZ.out.1 Try.underlying83 rfl (by kernel_rfl) ?_
  exact ⟨rfl, HZ.out.2⟩
def HD.F (D : HD) (r nx : Int) : Option If := if 0 ≤ r ∧ r ≤ 15 then D.find r.toNat nx.toNat else none
theorem HopsAt.finds {w : World} {h : Nat} {D : HD} (H : HopsAt w h D) : Finds w (.pointer (some ⟨h, 0, none⟩)) D.F := by
  intro W hW r nx h0 h1
  by_cases hr : 0 ≤ r ∧ r ≤ 15
  · have := find_any (H.keep hW) (ρ := r.toNat) (by omega) (a := nx.toNat) (by omega) ((D.find r.toNat nx.toNat).getD If.z) (D.find r.toNat nx.toNat).isSome (by cases D.find r.toNat nx.toNat <;> rfl) (by cases D.find r.toNat nx.toNat <;> simp [If.z])
    rw [show ((r.toNat : Nat) : Int) = r by omega, show ((nx.toNat : Nat) : Int) = nx by omega] at this
    unfold HD.F
    rw [if_pos hr]
    exact this
  · unfold HD.F
    rw [if_neg hr]
    exact find_out h r nx hr W
theorem finds_nil (w : World) : Finds w (.pointer none) (fun _ _ => none) := fun W _ r nx _ _ => find_nil r nx W
theorem CapAt.gets {w0 w : World} {c bm h : Nat} {D : HD} {S : Int → Option Cy} (H : CapAt w0 w c bm h D S) : Gets w (.pointer (some ⟨c, 0, none⟩)) (CGet D S) := by
  intro W hW id hid
  exact get_any (H.keep hW) hid ((CGet D S id).getD Cy.z) (CGet D S id).isSome (by cases CGet D S id <;> rfl) (by cases CGet D S id <;> simp [Cy.z])
theorem gets_nil (w : World) : Gets w (.pointer none) (fun _ => none) := fun W _ id _ => get_nil id W
/-- an option: a route, and its interface's number -/
def R46 : Rep Cd := ⟨46, 11, by decide, cdCells, cdCells_length, fun _ => rfl⟩
def optI (F : Int → Int → Option If) (x : Rt) : Int := match F x.r x.nx with | none => -1 | some y => y.id
set_option maxRecDepth 100000 in
set_option maxHeartbeats 1000000 in
theorem option_any {w : World} {hv : Value} {F : Int → Int → Option If} (H : Finds w hv F) (x : Rt) (hnx : 0 ≤ x.nx ∧ x.nx < 4294967296) : Calls Try.prog 14 #[hv, x.val] w fun e w' => e = .returned (x.cand (optI F x)) ∧ Below w.heap.size w w' := by
  have hal := ((Below.refl w.heap.size w).alloc (Nat.le_refl _) (.cells #[.int .i64 x.r, .int .u32 x.a, .int .i64 x.l, .int .i64 x.i, .int .i64 x.o, .slice x.pa x.pn x.pc, .int .u32 x.nx, .int .i64 x.md, .int .i64 x.pf, .slice x.ca x.cn x.cc] 44)).alloc (by simp) (.cells #[.int .i64 0, .int .u32 0, .int .i64 0, .int .i64 0, .int .i64 0, .slice none 0 0, .int .u32 0, .int .i64 0, .int .i64 0, .slice none 0 0, .int .i64 0] 46)
  have HC := Lib.hid (H _ hal x.r x.nx hnx.1 hnx.2)
  have h1 : ((w.alloc (.cells #[.int .i64 x.r, .int .u32 x.a, .int .i64 x.l, .int .i64 x.i, .int .i64 x.o, .slice x.pa x.pn x.pc, .int .u32 x.nx, .int .i64 x.md, .int .i64 x.pf, .slice x.ca x.cn x.cc] 44)).alloc (.cells #[.int .i64 0, .int .u32 0, .int .i64 0, .int .i64 0, .int .i64 0, .slice none 0 0, .int .u32 0, .int .i64 0, .int .i64 0, .slice none 0 0, .int .i64 0] 46)).heap[w.heap.size]? = some (.cells #[.int .i64 x.r, .int .u32 x.a, .int .i64 x.l, .int .i64 x.i, .int .i64 x.o, .slice x.pa x.pn x.pc, .int .u32 x.nx, .int .i64 x.md, .int .i64 x.pf, .slice x.ca x.cn x.cc] 44) := hold (hnew _ _)
  have h2 : ((w.alloc (.cells #[.int .i64 x.r, .int .u32 x.a, .int .i64 x.l, .int .i64 x.i, .int .i64 x.o, .slice x.pa x.pn x.pc, .int .u32 x.nx, .int .i64 x.md, .int .i64 x.pf, .slice x.ca x.cn x.cc] 44)).alloc (.cells #[.int .i64 0, .int .u32 0, .int .i64 0, .int .i64 0, .int .i64 0, .slice none 0 0, .int .u32 0, .int .i64 0, .int .i64 0, .slice none 0 0, .int .i64 0] 46)).heap[w.heap.size + 1]? = some (.cells #[.int .i64 0, .int .u32 0, .int .i64 0, .int .i64 0, .int .i64 0, .slice none 0 0, .int .u32 0, .int .i64 0, .int .i64 0, .slice none 0 0, .int .i64 0] 46) := hnewAt (by simp)
  have F1 := Lib.hid (And.intro hal (And.intro h1 h2))
  clear hal h1 h2 H hnx
  unfold Rt.val Rt.cand
  obtain ⟨nn, hnn⟩ : ∃ nn, optI F x = nn := ⟨_, rfl⟩
  rw [hnn]
  have HN := Lib.hid hnn
  clear hnn
  go_enter Try.func14, Try.ntmps14
  go_wp2_with fail
  generalize (w.alloc (.cells #[.int .i64 x.r, .int .u32 x.a, .int .i64 x.l, .int .i64 x.i, .int .i64 x.o, .slice x.pa x.pn x.pc, .int .u32 x.nx, .int .i64 x.md, .int .i64 x.pf, .slice x.ca x.cn x.cc] 44)).alloc (.cells #[.int .i64 0, .int .u32 0, .int .i64 0, .int .i64 0, .int .i64 0, .slice none 0 0, .int .u32 0, .int .i64 0, .int .i64 0, .slice none 0 0, .int .i64 0] 46) = W1 at *
  refine (HC.out).mono ?_
  rintro e W2 ⟨rfl, hb2⟩
  have F2 := Lib.hid (And.intro (bcall F1.out.1 (Nat.le_refl _) hb2) (And.intro ((hb2.block _ (lt_of_blk F1.out.2.1)).trans F1.out.2.1) ((hb2.block _ (lt_of_blk F1.out.2.2)).trans F1.out.2.2)))
  clear hb2 F1 HC
  cases hF : F x.r x.nx with
  | none =>
    obtain rfl : nn = -1 := by have := HN.out; unfold optI at this; rw [hF] at this; exact this.symm
    have hal3 := (Below.refl W2.heap.size W2).alloc (Nat.le_refl _) (.cells #[.int .i64 0, .int .i64 0, .int .u32 0, .int .i64 0, .int .i64 0] 83)
    have hcells : ∀ j v, #[.int .i64 x.r, .int .u32 x.a, .int .i64 x.l, .int .i64 x.i, .int .i64 x.o, .slice x.pa x.pn x.pc, .int .u32 x.nx, .int .i64 x.md, .int .i64 x.pf, .slice x.ca x.cn x.cc][j]? = some v → (W2.alloc (.cells #[.int .i64 0, .int .i64 0, .int .u32 0, .int .i64 0, .int .i64 0] 83)).cell? ⟨w.heap.size, j, none⟩ = some v := fun j v hv => cell_of (hold F2.out.2.1) hv
    have k0 := hcells 0 _ rfl
    have k1 := hcells 1 _ rfl
    have k2 := hcells 2 _ rfl
    have k3 := hcells 3 _ rfl
    have k4 := hcells 4 _ rfl
    have k5 := hcells 5 _ rfl
    have k6 := hcells 6 _ rfl
    have k7 := hcells 7 _ rfl
    have k8 := hcells 8 _ rfl
    have k9 := hcells 9 _ rfl
    clear hcells
    unfold If.z If.v
    go_wp2_with (with_reducible refine halt_store 46 rfl ?_)
    refine Halted.go ?_
    refine store_whole rfl 46 _ _ rfl (w.heap.size + 1) #[.int .i64 x.r, .int .u32 x.a, .int .i64 x.l, .int .i64 x.i, .int .i64 x.o, .slice x.pa x.pn x.pc, .int .u32 x.nx, .int .i64 x.md, .int .i64 x.pf, .slice x.ca x.cn x.cc, .int .i64 (-1)] rfl rfl (hold F2.out.2.2) rfl (by kernel_rfl) (by simp [Value.oneCell']) ?_
    intro Wz hwz hsz
    have HZ := Lib.hid (And.intro hwz (Below.trans (bcall F2.out.1 (Nat.le_refl _) hal3) (hsz.below (Nat.le_succ _))))
    clear hwz hsz hal3 k0 k1 k2 k3 k4 k5 k6 k7 k8 k9
    go_wp2_with fail
    refine ret_cell rfl rfl rfl HZ.out.1 Try.underlying46 rfl (by kernel_rfl) ?_
    exact ⟨rfl, HZ.out.2⟩
  | some y =>
    obtain rfl : nn = y.id := by have := HN.out; unfold optI at this; rw [hF] at this; exact this.symm
    have hal3 := (Below.refl W2.heap.size W2).alloc (Nat.le_refl _) (.cells #[.int .i64 y.id, .int .i64 y.r, .int .u32 (y.ad : Nat), .int .i64 y.ln, .int .i64 y.cp] 83)
    have hcells : ∀ j v, #[.int .i64 x.r, .int .u32 x.a, .int .i64 x.l, .int .i64 x.i, .int .i64 x.o, .slice x.pa x.pn x.pc, .int .u32 x.nx, .int .i64 x.md, .int .i64 x.pf, .slice x.ca x.cn x.cc][j]? = some v → (W2.alloc (.cells #[.int .i64 y.id, .int .i64 y.r, .int .u32 (y.ad : Nat), .int .i64 y.ln, .int .i64 y.cp] 83)).cell? ⟨w.heap.size, j, none⟩ = some v := fun j v hv => cell_of (hold F2.out.2.1) hv
    have k0 := hcells 0 _ rfl
    have k1 := hcells 1 _ rfl
    have k2 := hcells 2 _ rfl
    have k3 := hcells 3 _ rfl
    have k4 := hcells 4 _ rfl
    have k5 := hcells 5 _ rfl
    have k6 := hcells 6 _ rfl
    have k7 := hcells 7 _ rfl
    have k8 := hcells 8 _ rfl
    have k9 := hcells 9 _ rfl
    clear hcells
    dsimp only [Option.getD_some, Option.isSome_some]
    unfold If.v
    go_wp2_with (with_reducible refine halt_store 46 rfl ?_)
    refine Halted.go ?_
    refine store_whole rfl 46 _ _ rfl (w.heap.size + 1) #[.int .i64 x.r, .int .u32 x.a, .int .i64 x.l, .int .i64 x.i, .int .i64 x.o, .slice x.pa x.pn x.pc, .int .u32 x.nx, .int .i64 x.md, .int .i64 x.pf, .slice x.ca x.cn x.cc, .int .i64 y.id] rfl rfl (hold F2.out.2.2) rfl (by kernel_rfl) (by simp [Value.oneCell']) ?_
    intro Wz hwz hsz
    have HZ := Lib.hid (And.intro hwz (Below.trans (bcall F2.out.1 (Nat.le_refl _) hal3) (hsz.below (Nat.le_succ _))))
    clear hwz hsz hal3 k0 k1 k2 k3 k4 k5 k6 k7 k8 k9
    go_wp2_with fail
    refine ret_cell rfl rfl rfl HZ.out.1 Try.underlying46 rfl (by kernel_rfl) ?_
    exact ⟨rfl, HZ.out.2⟩
end Go.Proofs.Ytgainkgbodmciaa
/- Make where nothing is said; First. -/
namespace Go.Proofs.Ytgainkgbodmciaa
open Go.RowKit

set_option maxRecDepth 100000 in
set_option maxHeartbeats 1000000 in
theorem make_nil {w : World} {oa : Option Addr} {n c : Nat} {l : List If} (h : Ifs w oa n c l) (hg : Good l) : Calls Try.prog 8 #[.slice oa n c, .slice none 0 0] w fun e w' => ∃ hb cb xb, e = .returned (.tuple #[.pointer (some ⟨hb, 0, none⟩), .pointer (some ⟨cb, 0, none⟩), .pointer (some ⟨xb, 0, none⟩), .bool true]) ∧ Finds w' (.pointer (some ⟨hb, 0, none⟩)) (hdOf l).F ∧ Gets w' (.pointer (some ⟨cb, 0, none⟩)) (CGet (hdOf l) fun _ => none) ∧ Below w.heap.size w w' := by
  have HK := Lib.hid (hnew_ok h hg)
  have HI := Lib.hid h
  have hn : n ≤ 4294967296 := by have h1 := hg.len; have h2 := h.sl.len; omega
  clear h hg
  go_enter Try.func8, Try.ntmps8
  go_wp2_with fail
  refine (HK.out).mono ?_
  rintro e W1 ⟨hb, rfl, hh, hb1⟩
  have HH := Lib.hid (And.intro hh hb1)
  clear hh hb1 HK
  go_wp2_with fail
  refine (cnew_ok HH.out.1).mono ?_
  rintro e W2 ⟨cb, bm, rfl, hc⟩
  have HC := Lib.hid hc
  have hb2 : Below w.heap.size w W2 := bcall HH.out.2 (Nat.le_refl _) hc.bel
  have HB2 := Lib.hid hb2
  clear hc hb2 HH
  go_wp2_with fail
  refine (rcnew_any (HI.out.keep HB2.out) hn).mono ?_
  rintro e W3 ⟨xb, base, rfl, hx, hb3, -⟩
  have hb3w := bcall HB2.out (Nat.le_refl _) hb3
  have HX := Lib.hid (And.intro (HC.out.keep hb3).hops.finds (And.intro (HC.out.keep hb3).gets hb3w))
  clear hx hb3 hb3w HC HB2
  go_wp2_with fail
  go_loopw [13] (fun iv wr => iv = .int .i64 0 ∧ wr = W3) (fun _ _ => 0)
  case atStart => exact ⟨rfl, rfl⟩
  case round =>
    obtain ⟨rfl, rfl⟩ := hrel
    go_wp2_with fail
    refine bodyPost_ret (v := .tuple #[.pointer (some ⟨hb, 0, none⟩), .pointer (some ⟨cb, 0, none⟩), .pointer (some ⟨xb, 0, none⟩), .bool true]) (by simp [results, Try.results8, go_sem]) rfl ?_
    exact ⟨hb, cb, xb, rfl, HX.out⟩
set_option maxRecDepth 100000 in
set_option maxHeartbeats 1000000 in
theorem first_nil (hv : Value) (oa : Option Addr) (c : Nat) (w : World) : Calls Try.prog 9 #[hv, .slice oa 0 c] w fun e w' => e = .returned (.tuple #[.agg #[.int .i64 0, .int .u32 0, .int .i64 0, .int .i64 0, .int .i64 0, .slice none 0 0, .int .u32 0, .int .i64 0, .int .i64 0, .slice none 0 0, .int .i64 0], .bool false]) ∧ Below w.heap.size w w' := by
  have hal := (Below.refl w.heap.size w).alloc (Nat.le_refl _) (.cells #[.int .i64 0, .int .u32 0, .int .i64 0, .int .i64 0, .int .i64 0, .slice none 0 0, .int .u32 0, .int .i64 0, .int .i64 0, .slice none 0 0, .int .i64 0] 46)
  have h1 : (w.alloc (.cells #[.int .i64 0, .int .u32 0, .int .i64 0, .int .i64 0, .int .i64 0, .slice none 0 0, .int .u32 0, .int .i64 0, .int .i64 0, .slice none 0 0, .int .i64 0] 46)).heap[w.heap.size]? = some (.cells #[.int .i64 0, .int .u32 0, .int .i64 0, .int .i64 0, .int .i64 0, .slice none 0 0, .int .u32 0, .int .i64 0, .int .i64 0, .slice none 0 0, .int .i64 0] 46) := hnew _ _
  have F := Lib.hid (And.intro hal h1)
  clear hal h1
  go_enter Try.func9, Try.ntmps9
  go_wp2_with fail
  generalize w.alloc (.cells #[.int .i64 0, .int .u32 0, .int .i64 0, .int .i64 0, .int .i64 0, .slice none 0 0, .int .u32 0, .int .i64 0, .int .i64 0, .slice none 0 0, .int .i64 0] 46) = W1 at *
  refine (best_any oa 0 c [] W1 0 ⟨rfl, by unfold maxLen; omega, fun h => absurd h (Nat.lt_irrefl _)⟩ ⟨Nat.zero_le _, fun x hx => (by cases hx), by simp⟩).mono ?_
  rintro e W2 ⟨rfl, hb2⟩
  have F2 := Lib.hid (And.intro (bcall F.out.1 (Nat.le_refl _) hb2) ((hb2.block _ (lt_of_blk F.out.2)).trans F.out.2))
  clear hb2 F
  go_wp2_with (with_reducible refine halt_store 46 rfl ?_)
  refine Halted.go ?_
  refine store_whole rfl 46 _ _ rfl w.heap.size #[.int .i64 0, .int .u32 0, .int .i64 0, .int .i64 0, .int .i64 0, .slice none 0 0, .int .u32 0, .int .i64 0, .int .i64 0, .slice none 0 0, .int .i64 0] rfl rfl F2.out.2 rfl (by kernel_rfl) (by simp [Value.oneCell']) ?_
  intro Wz hwz hsz
  have HZ := Lib.hid (And.intro hwz (Below.trans F2.out.1 (hsz.below (Nat.le_refl _))))
  clear hwz hsz
  go_wp2_with fail
  refine ret_cell2 rfl rfl rfl HZ.out.1 Try.underlying46 rfl (by kernel_rfl) ?_
  exact ⟨rfl, HZ.out.2⟩
def NxOk (L : List Rt) : Prop := ∀ x ∈ L, 0 ≤ x.nx ∧ x.nx < 4294967296
set_option maxRecDepth 100000 in
set_option maxHeartbeats 1000000 in
theorem first_some {w : World} {hv : Value} {F : Int → Int → Option If} (HF : Finds w hv F) {oa : Option Addr} {n c : Nat} {L : List Rt} (hs : R40.Sl w oa n c L) {B : Nat} (hi : Ins w B L) (hnx : NxOk L) (hne : L ≠ []) : Calls Try.prog 9 #[hv, .slice oa n c] w fun e w' => e = .returned (.tuple #[(L.getD (bestN L) default).cand (optI F (L.getD (bestN L) default)), .bool true]) ∧ Below w.heap.size w w' := by
  have hal := (Below.refl w.heap.size w).alloc (Nat.le_refl _) (.cells #[.int .i64 0, .int .u32 0, .int .i64 0, .int .i64 0, .int .i64 0, .slice none 0 0, .int .u32 0, .int .i64 0, .int .i64 0, .slice none 0 0, .int .i64 0] 46)
  have h1 : (w.alloc (.cells #[.int .i64 0, .int .u32 0, .int .i64 0, .int .i64 0, .int .i64 0, .slice none 0 0, .int .u32 0, .int .i64 0, .int .i64 0, .slice none 0 0, .int .i64 0] 46)).heap[w.heap.size]? = some (.cells #[.int .i64 0, .int .u32 0, .int .i64 0, .int .i64 0, .int .i64 0, .slice none 0 0, .int .u32 0, .int .i64 0, .int .i64 0, .slice none 0 0, .int .i64 0] 46) := hnew _ _
  have HBst := Lib.hid (best_any oa n c L _ B (hs.keep hal) (hi.below (hal.mono hi.hB)))
  obtain ⟨hbl, -⟩ := best_head L hne
  have hem : (!L.isEmpty) = true := by cases L with | nil => exact absurd rfl hne | cons x r => rfl
  rw [hem] at HBst
  have hxn := hnx _ (getD_mem hbl)
  have hln := hs.len
  have hmx := hs.max
  obtain ⟨b, o, rfl, hrow⟩ := hs.row (by omega)
  have F1 := Lib.hid (And.intro hal (And.intro h1 (And.intro (HF.keep hal) (hrow.below hal))))
  clear hal h1 hs hi hnx hne HF hem hrow
  generalize hbn : bestN L = q at *
  have hqn : ((q : Int) < (n : Int)) = True := by simp; omega
  have hq0 : ((0 : Int) ≤ (q : Int)) = True := by simp
  have HQ := Lib.hid hbl
  clear hbl hbn hln
  obtain ⟨x, hx⟩ : ∃ x, L.getD q default = x := ⟨_, rfl⟩
  rw [hx] at hxn ⊢
  have HO := Lib.hid hxn
  have HXx := Lib.hid hx
  clear hx hxn
  go_enter Try.func9, Try.ntmps9
  go_wp2_with fail
  generalize w.alloc (.cells #[.int .i64 0, .int .u32 0, .int .i64 0, .int .i64 0, .int .i64 0, .slice none 0 0, .int .u32 0, .int .i64 0, .int .i64 0, .slice none 0 0, .int .i64 0] 46) = W1 at *
  refine (HBst.out).mono ?_
  rintro e W2 ⟨rfl, hb2⟩
  have F2 := Lib.hid (And.intro (bcall F1.out.1 (Nat.le_refl _) hb2) (And.intro ((hb2.block _ (lt_of_blk F1.out.2.1)).trans F1.out.2.1) (And.intro (F1.out.2.2.1.keep hb2) (F1.out.2.2.2.below hb2))))
  clear hb2 F1 HBst
  have hat := F2.out.2.2.2.get q HQ.out
  rw [HXx.out] at hat
  have k0 := hat 0 (by decide)
  have k1 := hat 1 (by decide)
  have k2 := hat 2 (by decide)
  have k3 := hat 3 (by decide)
  have k4 := hat 4 (by decide)
  have k5 := hat 5 (by decide)
  have k6 := hat 6 (by decide)
  have k7 := hat 7 (by decide)
  have k8 := hat 8 (by decide)
  have k9 := hat 9 (by decide)
  simp only [R40, Rt.cells, Nat.add_zero, List.getElem?_cons_zero, List.getElem?_cons_succ] at k0 k1 k2 k3 k4 k5 k6 k7 k8 k9
  clear hat
  go_wp2_with fail
  refine (option_any F2.out.2.2.1 x HO.out).mono ?_
  rintro e W3 ⟨rfl, hb3⟩
  have F3 := Lib.hid (And.intro (bcall F2.out.1 (Nat.le_refl _) hb3) ((hb3.block _ (lt_of_blk F2.out.2.1)).trans F2.out.2.1))
  clear hb3 F2 k0 k1 k2 k3 k4 k5 k6 k7 k8 k9
  unfold Rt.cand
  go_wp2_with (with_reducible refine halt_store 46 rfl ?_)
  refine Halted.go ?_
  refine store_whole rfl 46 _ _ rfl w.heap.size #[.int .i64 x.r, .int .u32 x.a, .int .i64 x.l, .int .i64 x.i, .int .i64 x.o, .slice x.pa x.pn x.pc, .int .u32 x.nx, .int .i64 x.md, .int .i64 x.pf, .slice x.ca x.cn x.cc, .int .i64 (optI F x)] rfl rfl F3.out.2 rfl (by kernel_rfl) (by simp [Value.oneCell']) ?_
  intro Wz hwz hsz
  have HZ := Lib.hid (And.intro hwz (Below.trans F3.out.1 (hsz.below (Nat.le_refl _))))
  clear hwz hsz
  go_wp2_with fail
  refine ret_cell2 rfl rfl rfl HZ.out.1 Try.underlying46 rfl (by kernel_rfl) ?_
  exact ⟨rfl, HZ.out.2⟩
end Go.Proofs.Ytgainkgbodmciaa
