/- CapaStays: the law's walk. -/
import Derived.Test.YtlkbaplfffbmkaaKal
namespace Go.Proofs.Ytlkbaplfffbmkaa
open Go.RowKit

theorem sayAll_ok {S : Int → Option Cy} (hS : SOk S) : ∀ (M : List Cy), M.all okC = true → SOk (sayAll S M) := by
  intro M
  induction M generalizing S with
  | nil => intro _; exact hS
  | cons y r ih =>
    intro h
    rw [List.all_cons, Bool.and_eq_true] at h
    exact ih (say_ok hS h.1) h.2
theorem took_ok {D : HD} {T : Nat → Int × Int × Bool} {src seq now : Int} {M : List Cy} (h0 : takeE D T src seq now M = 0) : M.all okC = true := by
  unfold takeE at h0
  cases ho : okCs src seq M with
  | false => rw [ho] at h0; simp at h0
  | true => exact (okCs_parts ho).2.2.2
def Cap0 (w0 w : World) (c bm h : Nat) (l : List If) : Prop := ∃ (S : Int → Option Cy) (T : Nat → Int × Int × Bool), CapS w0 w c bm h (hdOf l) S T ∧ SOk S
theorem Taken.cap0 {w0 w w' : World} {c bm h : Nat} {l : List If} {S : Int → Option Cy} {T : Nat → Int × Int × Bool} {src seq now : Int} {M : List Cy} (_hT : Taken w0 w w' c bm h (hdOf l) S T src seq now M) (hS : SOk S) : SOk (if takeE (hdOf l) T src seq now M = 0 then sayAll S M else S) := by
  split
  · rename_i h0; exact sayAll_ok hS M (took_ok h0)
  · exact hS
/-- is a number told of -/
def toldB (M : List Cy) (id : Int) : Bool := M.any fun z => z.id == id
theorem told_succ {M : List Cy} {k : Nat} (hk : k < M.length) (id : Int) : toldB (M.take (k + 1)) id = (toldB (M.take k) id || ((M.getD k default).id == id)) := by
  unfold toldB
  rw [List.take_succ_eq_append_getElem hk, List.any_append]
  simp [List.getD_eq_getElem?_getD, hk]
theorem say_far {S : Int → Option Cy} {y : Cy} {id : Int} (h : y.id ≠ id) : say S y id = S id := by unfold say; rw [if_neg (Ne.symm h)]
theorem sayAll_far : ∀ (M : List Cy) {S : Int → Option Cy} {id : Int}, toldB M id = false → sayAll S M id = S id
  | [], _, _, _ => rfl
  | y :: M, S, id, h => by
    unfold toldB at h
    rw [List.any_cons, Bool.or_eq_false_iff] at h
    show sayAll (say S y) M id = _
    rw [sayAll_far M h.2, say_far (by simpa using h.1)]
/-- what turned was told, by what was taken -/
theorem turned {S : Int → Option Cy} {te : Int} {M : List Cy} {x : If} (h : cyOf S x ≠ cyOf (if te = 0 then sayAll S M else S) x) : te = 0 ∧ toldB M x.id = true := by
  by_cases h0 : te = 0
  · refine ⟨h0, ?_⟩
    rw [if_pos h0] at h
    cases ht : toldB M x.id with
    | true => rfl
    | false => unfold cyOf at h; rw [sayAll_far M ht] at h; exact absurd rfl h
  · rw [if_neg h0] at h; exact absurd rfl h
def ArS (b o : Nat) (y : OpV) (w : World) : Prop := b < w.heap.size ∧ ROp.At w b o y
theorem ArS.rng {b o : Nat} {y : OpV} {w : World} (h : ArS b o y w) : w.rangeAt b o [.int .i64 y.src, .int .i64 y.seq, .slice y.a y.n y.c] := by
  intro j v hv
  have hj : j < 3 := by have := (List.getElem?_eq_some_iff.1 hv).1; simpa using this
  have h0 := h.2 j (by show j < 4; omega)
  rw [h0]
  have : j = 0 ∨ j = 1 ∨ j = 2 := by omega
  rcases this with rfl | rfl | rfl <;> exact hv
theorem ArS.now {b o : Nat} {y : OpV} {w : World} (h : ArS b o y w) : w.cell? ⟨b, o + 3, none⟩ = some (.int .i64 y.now) := h.2 3 (by decide)
theorem ArS.on {bs : List Nat} {b o : Nat} {y : OpV} {w w' : World} (h : ArS b o y w) (hb : But w w' bs) (hn : b ∉ bs) : ArS b o y w' := ⟨Nat.lt_of_lt_of_le h.1 hb.size, h.2.keep (hb.block _ h.1 hn)⟩
set_option maxRecDepth 100000 in
set_option maxHeartbeats 8000000 in
theorem cstays_law {w : World} {oa oo : Option Addr} {n cn m cm : Nat} {l : List If} {ops : List OpV} (hl : IfsW w oa n cn l) (ho : ROp.Sl w oo m cm ops) (hM : ∀ y ∈ ops, ∃ M, Cys w y.a y.n y.c M) (y : OpV) (hy : ∃ M, Cys w y.a y.n y.c M) : Calls Try.prog 8 #[.slice oa n cn, .slice oo m cm, .agg #[.int .i64 y.src, .int .i64 y.seq, .slice y.a y.n y.c, .int .i64 y.now]] w fun e w' => e = .returned (.bool true) ∧ Below w.heap.size w w' := by
  obtain ⟨M, hy⟩ := hy
  have hlen := hl.ifs.sl.len
  have HL := Lib.hid hlen
  have HO := Lib.hid (And.intro ho hM)
  have HOL := Lib.hid ho.len
  have hmm := ho.max
  have hal := (Below.refl w.heap.size w).alloc (Nat.le_refl _) (.cells #[.int .i64 y.src, .int .i64 y.seq, .slice y.a y.n y.c, .int .i64 y.now] 57)
  have hos : OpS w.heap.size y (w.alloc (.cells #[.int .i64 y.src, .int .i64 y.seq, .slice y.a y.n y.c, .int .i64 y.now] 57)) := hnew _ _
  have F0 := Lib.hid (And.intro hal (And.intro (hl.keep hal) (And.intro hos hy)))
  obtain ⟨z0, z1, z2, z3⟩ := hos.cells
  have HI := Lib.hid hl
  clear hl hlen ho hM hal hos hy
  by_cases h100 : 100 < n
  · have h3 : ((100 : Int) < (n : Int)) = True := by simp; omega
    clear h100
    go_enter Try.func8, Try.ntmps8
    go_wp2_with fail
    refine (lives18 _).mono ?_
    rintro e W1 ⟨rfl, hb⟩
    have HB := Lib.hid (bcall F0.out.1 (Nat.le_refl _) hb)
    clear hb
    go_wp2_with fail
    go_ret
    exact ⟨rfl, HB.out⟩
  have h3 : ((100 : Int) < (n : Int)) = False := by simp; omega
  obtain ⟨bg, hbg⟩ : ∃ bg, goodB l = bg := ⟨_, rfl⟩
  have hch := rchk_is F0.out.2.1.ifs
  rw [hbg] at hch
  have HCH := Lib.hid hch
  have HG0 := Lib.hid hbg
  clear hbg hch
  cases bg with
  | false =>
    go_enter Try.func8, Try.ntmps8
    go_wp2_with fail
    refine HCH.out.mono ?_
    rintro e W1 ⟨rfl, hb1⟩
    have F1 := Lib.hid (bcall F0.out.1 (Nat.le_refl _) hb1)
    clear hb1 z0 z1 z2 z3
    go_wp2_with fail
    refine (lives18 _).mono ?_
    rintro e W2 ⟨rfl, hb2⟩
    have F2 := Lib.hid (bcall F1.out (Nat.le_refl _) hb2)
    clear hb2 F1
    go_wp2_with fail
    go_ret
    exact ⟨rfl, F2.out⟩
  | true =>
    have HG := Lib.hid (good_iff.1 HG0.out)
    clear HG0
    by_cases h40 : 40 < m
    · have h4 : ((40 : Int) < (m : Int)) = True := by simp; omega
      clear h40
      go_enter Try.func8, Try.ntmps8
      go_wp2_with fail
      refine HCH.out.mono ?_
      rintro e W1 ⟨rfl, hb1⟩
      have F1 := Lib.hid (And.intro (bcall F0.out.1 (Nat.le_refl _) hb1) (F0.out.2.2.1.on (hb1.block _ (lt_of_blk F0.out.2.2.1))))
      clear hb1 z0 z1 z2 z3
      obtain ⟨z0, z1, z2, z3⟩ := F1.out.2.cells
      go_wp2_with fail
      refine (lives18 _).mono ?_
      rintro e W2 ⟨rfl, hb2⟩
      have F2 := Lib.hid (bcall F1.out.1 (Nat.le_refl _) hb2)
      clear hb2 F1
      go_wp2_with fail
      go_ret
      exact ⟨rfl, F2.out⟩
    have h4 : ((40 : Int) < (m : Int)) = False := by simp; omega
    by_cases hn0 : 100 < y.n
    · have h5 : ((100 : Int) < (y.n : Int)) = True := by simp; omega
      clear hn0
      go_enter Try.func8, Try.ntmps8
      go_wp2_with fail
      refine HCH.out.mono ?_
      rintro e W1 ⟨rfl, hb1⟩
      have F1 := Lib.hid (And.intro (bcall F0.out.1 (Nat.le_refl _) hb1) (F0.out.2.2.1.on (hb1.block _ (lt_of_blk F0.out.2.2.1))))
      clear hb1 z0 z1 z2 z3
      obtain ⟨z0, z1, z2, z3⟩ := F1.out.2.cells
      go_wp2_with fail
      refine (lives18 _).mono ?_
      rintro e W2 ⟨rfl, hb2⟩
      have F2 := Lib.hid (bcall F1.out.1 (Nat.le_refl _) hb2)
      clear hb2 F1
      go_wp2_with fail
      go_ret
      exact ⟨rfl, F2.out⟩
    have h5 : ((100 : Int) < (y.n : Int)) = False := by simp; omega
    go_enter Try.func8, Try.ntmps8
    go_wp2_with fail
    clear z0 z1 z2 z3
    generalize w.alloc (.cells #[.int .i64 y.src, .int .i64 y.seq, .slice y.a y.n y.c, .int .i64 y.now] 57) = W0 at *
    obtain ⟨qo, hqo⟩ : ∃ q, w.heap.size = q := ⟨_, rfl⟩
    have HQ := Lib.hid hqo
    rw [hqo]
    have F00 := Lib.hid (show Below w.heap.size w W0 ∧ IfsW W0 oa n cn l ∧ OpS qo y W0 ∧ Cys w y.a y.n y.c M from hqo ▸ F0.out)
    clear hqo F0
    refine HCH.out.mono ?_
    rintro e W1 ⟨rfl, hb1⟩
    have F1 := Lib.hid (And.intro (bcall F00.out.1 (Nat.le_refl _) hb1) (And.intro (F00.out.2.1.keep hb1) (And.intro (F00.out.2.2.1.on (hb1.block _ (lt_of_blk F00.out.2.2.1))) F00.out.2.2.2)))
    clear hb1 HCH F00
    obtain ⟨z0, z1, z2, z3⟩ := F1.out.2.2.1.cells
    go_wp2_with fail
    clear z0 z1 z2 z3
    refine (hnew_ok F1.out.2.1.ifs HG.out).mono ?_
    rintro e W2 ⟨h, rfl, hH, hb2⟩
    have F2 := Lib.hid (And.intro (bcall F1.out.1 (Nat.le_refl _) hb2) (And.intro (F1.out.2.2.1.on (hb2.block _ (lt_of_blk F1.out.2.2.1))) (And.intro F1.out.2.2.2 hH)))
    have HQ2 := Lib.hid (show qo < W2.heap.size from Nat.lt_of_lt_of_le (lt_of_blk F1.out.2.2.1) hb2.size)
    clear hb2 F1 hH
    go_wp2_with fail
    refine (cnew_S F2.out.2.2.2).mono ?_
    rintro e W3 ⟨c, bm, rfl, hC⟩
    have HX := Lib.hid (And.intro F2.out.1.size (And.intro hC.hc hC.hm))
    have F3 := Lib.hid (And.intro (F2.out.1.trans (hC.bel.mono F2.out.1.size)) (And.intro (F2.out.2.1.on (hC.bel.block _ HQ2.out)) (And.intro F2.out.2.2.1 hC)))
    clear hC F2
    go_wp2_with fail
    refine (lives18 _).mono ?_
    rintro e W4 ⟨rfl, hb⟩
    have F4 := Lib.hid (And.intro (bcall F3.out.1 (Nat.le_refl _) hb) (And.intro (F3.out.2.1.on (hb.block _ (lt_of_blk F3.out.2.1))) (And.intro F3.out.2.2.1 (show Cap0 W2 W4 c bm h l from ⟨_, _, F3.out.2.2.2.keep hb, SOk.none⟩))))
    clear hb F3
    have HQC := Lib.hid (And.intro (show qo ≠ c from fun e => by have := HX.out.2.1; have := HQ2.out; omega) (show qo ≠ bm from fun e => by have := HX.out.2.2; have := HQ2.out; omega))
    go_wp2_with fail
    have HYM := Lib.hid F4.out.2.2.1
    go_loopw [11] (fun iv wr => ∃ i : Nat, i ≤ m ∧ iv = .int .i64 i ∧ Below w.heap.size w wr ∧ OpS qo y wr ∧ Cap0 W2 wr c bm h l) (fun iv _ => m - (intOf iv).toNat)
    case atStart => exact ⟨0, Nat.zero_le _, rfl, F4.out.1, F4.out.2.1, F4.out.2.2.2⟩
    case round =>
      obtain ⟨i, him, rfl, hb, hos, hcap⟩ := hrel
      obtain ⟨w2, rfl⟩ : ∃ w2 : World, w2 = wr := ⟨_, rfl⟩
      obtain ⟨S, T, hc, hs⟩ := hcap
      have G0 := Lib.hid (And.intro hb (And.intro hos (And.intro hc hs)))
      clear hb hos hc hs F4
      by_cases hlt : i < m
      · have hil : ((i : Int) < (m : Int)) = True := by simp; omega
        have hi0 : ((0 : Int) ≤ (i : Int)) = True := by simp
        have hw3 := wrapS hlt hmm
        have hmem : ops.getD i default ∈ ops := getD_mem (by rw [← HOL.out]; exact hlt)
        obtain ⟨M2, hM2⟩ := HO.out.2 _ hmem
        obtain ⟨b0, o0, hoo, hr0⟩ := HO.out.1.row (by omega)
        subst hoo
        have hb0 := hr0.lt
        have har0 := (hr0.below G0.out.1).get i (by rw [← HOL.out]; exact hlt)
        generalize ops.getD i default = v at *
        have har : ArS b0 (o0 + i * 4) v w2 := ⟨Nat.lt_of_lt_of_le hb0 G0.out.1.size, har0⟩
        have y2 : w2.cell? ⟨b0, o0 + i * 4 + 2, none⟩ = some (.slice v.a v.n v.c) := har0 2 (by decide)
        have hbne : b0 ≠ c ∧ b0 ≠ bm := ⟨by have := HX.out; omega, by have := HX.out; omega⟩
        have G1 := Lib.hid (And.intro G0.out.1 (And.intro G0.out.2.1 (And.intro G0.out.2.2.1 (And.intro G0.out.2.2.2 (And.intro hM2 (And.intro har hbne))))))
        clear hmem hM2 hr0 hb0 har0 har hbne G0
        by_cases h1 : 100 < v.n
        · have h1t : ((100 : Int) < (v.n : Int)) = True := by simp; omega
          clear h1
          go_wp2_with fail
          go_ret
          exact ⟨rfl, G1.out.1⟩
        have h1f : ((100 : Int) < (v.n : Int)) = False := by simp; omega
        clear h1
        go_wp2_with fail
        clear y2
        have hd := (Below.refl w2.heap.size w2).drew
        have G2 := Lib.hid (And.intro (bcall G1.out.1 (Nat.le_refl _) hd) (And.intro (G1.out.2.1.on (hd.block _ (lt_of_blk G1.out.2.1))) (And.intro (G1.out.2.2.1.keep hd) (And.intro G1.out.2.2.2.1 (And.intro G1.out.2.2.2.2.1 (And.intro (ArS.on (bs := []) (y := v) G1.out.2.2.2.2.2.1 (But.of_below hd _) (by simp)) G1.out.2.2.2.2.2.2))))))
        clear hd G1
        refine wp_region_heldP (ArS b0 (o0 + i * 4) v) (by kernel_rfl) ?_
        generalize w2.drew = w3 at *
        refine held_reads [0, 1, 2, 3, 4, 5, 6, 7, 8, 9, 10] (g := 1) rfl (by kernel_rfl) G2.out.2.2.2.2.2.1 (fun _ _ d _ _ h => by cases d <;> exact h) ?_
        simp only [pick, List.getD_cons_zero, List.getD_cons_succ]
        ((with_reducible refine wpRead_step (fun K hK => ?_)); go_simp; first | ((with_reducible refine hK _ ?_); clear hK K) | (apply Exists.intro; (with_reducible refine ⟨fun w' hw' => ?_, hK _ ?_⟩); (first | exact rfl | exact ⟨rfl, rfl⟩); clear hK K))
        ((with_reducible refine wpRead_step (fun K hK => ?_)); go_simp; first | ((with_reducible refine hK _ ?_); clear hK K) | (apply Exists.intro; (with_reducible refine ⟨fun w' hw' => ?_, hK _ ?_⟩); (first | exact rfl | exact ⟨rfl, rfl⟩); clear hK K))
        ((with_reducible refine wpRead_step (fun K hK => ?_)); go_simp; first | ((with_reducible refine hK _ ?_); clear hK K) | (apply Exists.intro; (with_reducible refine ⟨fun w' hw' => ?_, hK _ ?_⟩); (first | exact rfl | exact ⟨rfl, rfl⟩); clear hK K))
        ((with_reducible refine wpRead_step (fun K hK => ?_)); go_simp; first | ((with_reducible refine hK _ ?_); clear hK K) | (apply Exists.intro; (with_reducible refine ⟨fun w' hw' => ?_, hK _ ?_⟩); (first | exact rfl | exact ⟨rfl, rfl⟩); clear hK K))
        ((with_reducible refine wpRead_step (fun K hK => ?_)); go_simp; first | ((with_reducible refine hK _ ?_); clear hK K) | (apply Exists.intro; (with_reducible refine ⟨fun w' hw' => ?_, hK _ ?_⟩); (first | exact rfl | exact ⟨rfl, rfl⟩); clear hK K))
        with_reducible refine wpRead_yes ?_ ?_
        rotate_left
        rfl
        intro K hK
        refine read_load 55 _ rfl b0 (o0 + i * 4) #[.int .i64 v.src, .int .i64 v.seq, .slice v.a v.n v.c] rfl (fun w' hw' => hw'.rng) Try.underlying55 rfl (by kernel_rfl) (hK _ ?_)
        clear hK K
        ((with_reducible refine wpRead_step (fun K hK => ?_)); go_simp; first | ((with_reducible refine hK _ ?_); clear hK K) | (apply Exists.intro; (with_reducible refine ⟨fun w' hw' => ?_, hK _ ?_⟩); (first | exact rfl | exact ⟨rfl, rfl⟩); clear hK K))
        ((with_reducible refine wpRead_step (fun K hK => ?_)); go_simp; first | ((with_reducible refine hK _ ?_); clear hK K) | (apply Exists.intro; (with_reducible refine ⟨fun w' hw' => ?_, hK _ ?_⟩); (first | exact rfl | exact ⟨rfl, rfl⟩); clear hK K))
        ((with_reducible refine wpRead_step (fun K hK => ?_)); go_simp; first | ((with_reducible refine hK _ ?_); clear hK K) | (apply Exists.intro; (with_reducible refine ⟨fun w' hw' => ?_, hK _ ?_⟩); (first | exact rfl | exact ⟨rfl, rfl⟩); clear hK K))
        ((with_reducible refine wpRead_step (fun K hK => ?_)); go_simp; first | ((with_reducible refine hK _ ?_); clear hK K) | (apply Exists.intro; (with_reducible refine ⟨fun w' hw' => ?_, hK _ ?_⟩); (first | exact rfl | exact ⟨rfl, rfl⟩); clear hK K))
        ((with_reducible refine wpRead_step (fun K hK => ?_)); go_simp; first | ((with_reducible refine hK _ ?_); clear hK K) | (apply Exists.intro; (with_reducible refine ⟨fun w' hw' => ?_, hK _ ?_⟩); (have f0 := ArS.now hw'; go_simp; first | exact rfl | exact ⟨rfl, rfl⟩); clear hK K))
        with_reducible refine wpRead_nil ?_
        have HT1 := Lib.hid (ctake_any G2.out.2.2.1 (src := v.src) (seq := v.seq) (G2.out.2.2.2.2.1.keep G2.out.1) (fun hn b o e => ⟨G2.out.2.2.2.2.1.far (Nat.le_trans HX.out.1 HX.out.2.1) hn b o e, G2.out.2.2.2.2.1.far (Nat.le_trans HX.out.1 HX.out.2.2) hn b o e⟩) v.now)
        refine held_one 11 (by kernel_rfl) ?_
        simp only [pick, List.getD_cons_zero, List.getD_cons_succ]
        go_wp2_with fail
        refine HT1.out.mono ?_
        rintro e w4 ⟨rfl, hT⟩
        have hbw : Below w.heap.size w w4 := Below.step G2.out.1 G2.out.1.size hT.but (by simp; exact ⟨Nat.le_trans HX.out.1 HX.out.2.1, Nat.le_trans HX.out.1 HX.out.2.2⟩)
        have hos : OpS qo y w4 := G2.out.2.1.on (hT.but.block _ (lt_of_blk G2.out.2.1) (by simp; exact HQC.out))
        have har := G2.out.2.2.2.2.2.1.on hT.but (by simp; exact G2.out.2.2.2.2.2.2)
        have G4 := Lib.hid har
        have G3 := Lib.hid (And.intro hbw (And.intro hos (show Cap0 W2 w4 c bm h l from ⟨_, _, hT.cap, hT.cap0 G2.out.2.2.2.1⟩)))
        clear hT hbw hos har HT1 G2
        go_wp2_with fail
        refine ⟨G4.out, ?_⟩
        refine wpAnyH_done (by kernel_rfl) ?_ _
        go_wp2_with fail
        exact ⟨⟨i + 1, hlt, by first | rw [hw3] | rw [Int.natCast_succ], G3.out⟩, by first | (rw [hw3]; exact mSucc hlt) | (rw [← Int.natCast_succ]; exact mSucc hlt)⟩
      · obtain rfl : m = i := by omega
        have hil : ((m : Int) < (m : Int)) = False := by simp
        go_wp2_with fail
        refine (callC_any G0.out.2.2.1.at HG.out).mono ?_
        rintro e W5 ⟨v5, rfl, hown5, hb5⟩
        have hlc := G0.out.2.2.1.lc
        have G1 := Lib.hid (And.intro (bcall G0.out.1 (Nat.le_refl _) hb5) (And.intro (G0.out.2.1.on (hb5.block _ (lt_of_blk G0.out.2.1))) (And.intro (G0.out.2.2.1.keep hb5) (And.intro G0.out.2.2.2 (show RCy.Own W5 w2.heap.size v5 (LS l S) from hown5)))))
        clear hown5 hb5 G0
        obtain ⟨a5, c5, rfl, -, -⟩ := G1.out.2.2.2.2.sl0
        have hls : (LS l S).length = n := by rw [LS_len, HL.out]
        rw [hls] at G1 ⊢
        obtain ⟨z0, z1, z2, z3⟩ := G1.out.2.1.cells
        obtain ⟨te, hte⟩ : ∃ te, takeE (hdOf l) T y.src y.seq y.now M = te := ⟨_, rfl⟩
        have HT1 := ctake_any G1.out.2.2.1 (src := y.src) (seq := y.seq) (HYM.out.keep G1.out.1) (fun hn b o e => ⟨HYM.out.far (Nat.le_trans HX.out.1 HX.out.2.1) hn b o e, HYM.out.far (Nat.le_trans HX.out.1 HX.out.2.2) hn b o e⟩) y.now
        rw [hte] at HT1
        have HT2 := Lib.hid HT1
        have HTE := Lib.hid hte
        have HLS := Lib.hid (And.intro hls hlc)
        clear HT1 hte hls hlc
        go_wp2_with fail
        refine HT2.out.mono ?_
        rintro e W6 ⟨rfl, hT⟩
        clear z0 z1 z2 z3
        have hbw : Below w.heap.size w W6 := Below.step G1.out.1 G1.out.1.size hT.but (by simp; exact ⟨Nat.le_trans HX.out.1 HX.out.2.1, Nat.le_trans HX.out.1 HX.out.2.2⟩)
        have hos : OpS qo y W6 := G1.out.2.1.on (hT.but.block _ (lt_of_blk G1.out.2.1) (by simp; exact HQC.out))
        have hown := Rep.Own.but G1.out.2.2.2.2 hT.but (by simp; exact HLS.out.2)
        have hcap := hT.cap
        have hs6 := hT.cap0 G1.out.2.2.2.1
        rw [HTE.out] at hcap hs6
        have G2 := Lib.hid (And.intro hbw (And.intro hos (And.intro hcap (And.intro G1.out.2.2.2.1 (And.intro hown hs6)))))
        clear hT hbw hos hown hcap hs6 HT2 G1
        go_wp2_with fail
        refine (callC_any G2.out.2.2.1.at HG.out).mono ?_
        rintro e W7 ⟨v7, rfl, hown7, hb7⟩
        obtain ⟨a7, c7, rfl, hsl7, -⟩ := hown7.sl0
        have hl7 : ((sortI l).map (cyOf (if te = 0 then sayAll S M else S))).length = n := by rw [List.length_map, sortI_length, HL.out]
        rw [hl7] at hsl7 ⊢
        obtain ⟨a6, c6, e6, hsl6, -⟩ := (G2.out.2.2.2.2.1.below hb7).sl0
        rw [HLS.out.1] at hsl6 e6
        injection e6 with e61 e62 e63
        subst e61 e63
        have G3 := Lib.hid (And.intro (bcall G2.out.1 (Nat.le_refl _) hb7) (And.intro (G2.out.2.1.on (hb7.block _ (lt_of_blk G2.out.2.1))) (And.intro (HYM.out.keep (bcall G2.out.1 (Nat.le_refl _) hb7)) (And.intro hsl6 hsl7))))
        have HS := Lib.hid (And.intro G2.out.2.2.2.1 G2.out.2.2.2.2.2)
        have HML := Lib.hid HYM.out.sl.len
        clear hown7 hb7 hl7 hsl6 hsl7 G2
        go_wp2_with fail
        go_loopw [15] (fun kv wr => ∃ k : Nat, k ≤ n ∧ kv = .int .i64 k ∧ Below W7.heap.size W7 wr) (fun kv _ => n - (intOf kv).toNat)
        case atStart => exact ⟨0, Nat.zero_le _, rfl, Below.refl _ _⟩
        case round =>
          obtain ⟨k, hkn, rfl, hb⟩ := hrel
          obtain ⟨w5, rfl⟩ : ∃ w5 : World, w5 = wr := ⟨_, rfl⟩
          have J0 := Lib.hid (And.intro (bcall G3.out.1 (Nat.le_refl _) hb) (And.intro (G3.out.2.1.on (hb.block _ (lt_of_blk G3.out.2.1))) (And.intro (G3.out.2.2.1.keep hb) (And.intro (G3.out.2.2.2.1.keep hb) (And.intro (G3.out.2.2.2.2.keep hb) hb)))))
          clear hb
          by_cases hkt : k < n
          · have hki : ((k : Int) < (n : Int)) = True := by simp; omega
            have hk0 : ((0 : Int) ≤ (k : Int)) = True := by simp
            have hnm : n ≤ maxLen := by unfold maxLen; omega
            have hwk := wrapS hkt hnm
            obtain ⟨b6, o6, rfl, hbb6, hat6⟩ := J0.out.2.2.2.1.at hkt
            obtain ⟨b7, o7, rfl, hbb7, hat7⟩ := J0.out.2.2.2.2.1.at hkt
            rw [LS_get (by rw [← HL.out]; exact hkt)] at hat6
            rw [show (List.map (cyOf (if te = 0 then sayAll S M else S)) (sortI l)).getD k default = cyOf (if te = 0 then sayAll S M else S) ((sortI l).getD k default) from LS_get (by rw [← HL.out]; exact hkt)] at hat7
            generalize (sortI l).getD k default = xk at *
            have hid6 := cyOf_id HS.out.1 xk
            have hid7 := cyOf_id HS.out.2 xk
            have htn := turned (S := S) (te := te) (M := M) (x := xk)
            generalize cyOf S xk = r at *
            generalize cyOf (if te = 0 then sayAll S M else S) xk = r7 at *
            rw [← hid6] at htn
            have HTN := Lib.hid htn
            have HID := Lib.hid (hid7.trans hid6.symm)
            have J1 := Lib.hid (And.intro J0.out.1 (And.intro J0.out.2.1 (And.intro J0.out.2.2.1 (And.intro (And.intro hbb6 hat6) (And.intro (And.intro hbb7 hat7) J0.out.2.2.2.2.2)))))
            clear hat6 hat7 hbb6 hbb7 hid6 hid7 htn J0
            go_wp2_with fail
            go_loopw [17, 16] (fun jv tv wr => ∃ j : Nat, j ≤ y.n ∧ jv = .int .i64 j ∧ tv = .bool (toldB (M.take j) r.id) ∧ Below w5.heap.size w5 wr) (fun jv _ _ => y.n - (intOf jv).toNat)
            case atStart => exact ⟨0, Nat.zero_le _, rfl, rfl, Below.refl _ _⟩
            case round =>
              obtain ⟨j, hjn, rfl, rfl, hb⟩ := hrel
              obtain ⟨w6, rfl⟩ : ∃ w6 : World, w6 = wr := ⟨_, rfl⟩
              have hos := J1.out.2.1.on (hb.block _ (lt_of_blk J1.out.2.1))
              obtain ⟨z0, z1, z2, z3⟩ := OpS.cells hos
              by_cases hjt : j < y.n
              · have hji : ((j : Int) < (y.n : Int)) = True := by simp; omega
                have hj0 : ((0 : Int) ≤ (j : Int)) = True := by simp
                have hwj := wrapS hjt (show y.n ≤ maxLen by unfold maxLen; omega)
                have htd := told_succ (M := M) (k := j) (by rw [← HML.out]; exact hjt) r.id
                obtain ⟨b8, o8, h8, hbb8, hat8⟩ := (J1.out.2.2.1.keep hb).sl.at hjt
                have hat9 := J1.out.2.2.2.1.2.keep (hb.block _ J1.out.2.2.2.1.1)
                generalize M.getD j default = mj at *
                have c0 := hat8 0 (by decide)
                have d0 := hat9 0 (by decide)
                simp only [RCy, Nat.add_zero, List.getElem?_cons_zero] at c0 d0
                rw [h8] at z2
                generalize toldB (List.take j M) r.id = tb at *
                have J2 := Lib.hid (And.intro hb.drew htd)
                clear hb hat8 hat9 hbb8 h8 htd hos z0 z1 z3
                cases tb with
                | true =>
                  go_wp2_with fail
                  refine wp_region_quiet_tail (fun w' => w' = w6.drew) 15 (by kernel_rfl) (by kernel_rfl) rfl ?_
                  simp only [List.take_succ_cons, List.take_zero, List.drop_succ_cons, List.drop_zero]
                  iterate 15 ((with_reducible refine wpQuiet_step (fun K hK => ?_)); go_simp; first | (rw [if_neg (by decide)]; (with_reducible refine hK _ ?_); clear hK K) | ((with_reducible refine hK _ ?_); clear hK K) | (apply Exists.intro; (with_reducible refine ⟨fun w' hw' => ?_, hK _ ?_⟩); (subst hw'; first | (go_simp; first | exact rfl | exact ⟨rfl, rfl⟩) | exact rfl | exact ⟨rfl, rfl⟩); clear hK K))
                  refine wpQuiet_nil ?_
                  rintro _ rfl
                  go_wp2_with fail
                  exact ⟨⟨j + 1, hjt, by first | rw [hwj] | rw [Int.natCast_succ], by rw [J2.out.2]; rfl, J2.out.1⟩, by first | (rw [hwj]; exact mSucc hjt) | (rw [← Int.natCast_succ]; exact mSucc hjt)⟩
                | false =>
                  go_wp2_with fail
                  refine wp_region_quiet_tail (fun w' => w' = w6.drew) 15 (by kernel_rfl) (by kernel_rfl) rfl ?_
                  simp only [List.take_succ_cons, List.take_zero, List.drop_succ_cons, List.drop_zero]
                  iterate 15 ((with_reducible refine wpQuiet_step (fun K hK => ?_)); go_simp; first | (rw [if_neg (by decide)]; (with_reducible refine hK _ ?_); clear hK K) | ((with_reducible refine hK _ ?_); clear hK K) | (apply Exists.intro; (with_reducible refine ⟨fun w' hw' => ?_, hK _ ?_⟩); (subst hw'; first | (go_simp; first | exact rfl | exact ⟨rfl, rfl⟩) | exact rfl | exact ⟨rfl, rfl⟩); clear hK K))
                  refine wpQuiet_nil ?_
                  rintro _ rfl
                  go_wp2_with fail
                  exact ⟨⟨j + 1, hjt, by first | rw [hwj] | rw [Int.natCast_succ], by rw [J2.out.2]; first | rfl | simp, J2.out.1⟩, by first | (rw [hwj]; exact mSucc hjt) | (rw [← Int.natCast_succ]; exact mSucc hjt)⟩
              · obtain rfl : y.n = j := by omega
                have hji : ((y.n : Int) < (y.n : Int)) = False := by simp
                have htd : M.take y.n = M := List.take_of_length_le (by rw [← HML.out]; exact Nat.le_refl _)
                rw [htd]
                generalize toldB M r.id = tb at *
                have hat9 := J1.out.2.2.2.1.2.keep (hb.block _ J1.out.2.2.2.1.1)
                have hat8 := J1.out.2.2.2.2.1.2.keep (hb.block _ J1.out.2.2.2.2.1.1)
                have c0 := hat9 0 (by decide)
                have c1 := hat9 1 (by decide)
                have c2 := hat9 2 (by decide)
                have d0 := hat8 0 (by decide)
                have d1 := hat8 1 (by decide)
                have d2 := hat8 2 (by decide)
                simp only [RCy, Nat.add_zero, List.getElem?_cons_zero, List.getElem?_cons_succ] at c0 c1 c2 d0 d1 d2
                have J2 := Lib.hid ((J1.out.2.2.2.2.2.trans (hb.mono J1.out.2.2.2.2.2.size)).drew)
                clear hb hat8 hat9 htd hos
                by_cases hrr : r = r7
                · subst hrr
                  clear HTN
                  cases tb with
                  | false =>
                    go_wp2_with fail
                    refine wp_region_quiet_tail (fun w' => w' = w6.drew) 16 (by kernel_rfl) (by kernel_rfl) rfl ?_
                    simp only [List.take_succ_cons, List.take_zero, List.drop_succ_cons, List.drop_zero]
                    iterate 16 ((with_reducible refine wpQuiet_step (fun K hK => ?_)); go_simp; first | (rw [if_neg (by decide)]; (with_reducible refine hK _ ?_); clear hK K) | ((with_reducible refine hK _ ?_); clear hK K) | (apply Exists.intro; (with_reducible refine ⟨fun w' hw' => ?_, hK _ ?_⟩); (subst hw'; first | (go_simp; first | exact rfl | exact ⟨rfl, rfl⟩) | exact rfl | exact ⟨rfl, rfl⟩); clear hK K))
                    refine wpQuiet_nil ?_
                    rintro _ rfl
                    go_wp2_with fail
                    exact ⟨⟨k + 1, hkt, by first | rw [hwk] | rw [Int.natCast_succ], J2.out⟩, by first | (rw [hwk]; exact mSucc hkt) | (rw [← Int.natCast_succ]; exact mSucc hkt)⟩
                  | true =>
                    go_wp2_with fail
                    refine wp_region_quiet_tail (fun w' => w' = w6.drew) 16 (by kernel_rfl) (by kernel_rfl) rfl ?_
                    simp only [List.take_succ_cons, List.take_zero, List.drop_succ_cons, List.drop_zero]
                    iterate 16 ((with_reducible refine wpQuiet_step (fun K hK => ?_)); go_simp; first | (rw [if_neg (by decide)]; (with_reducible refine hK _ ?_); clear hK K) | ((with_reducible refine hK _ ?_); clear hK K) | (apply Exists.intro; (with_reducible refine ⟨fun w' hw' => ?_, hK _ ?_⟩); (subst hw'; first | (go_simp; first | exact rfl | exact ⟨rfl, rfl⟩) | exact rfl | exact ⟨rfl, rfl⟩); clear hK K))
                    refine wpQuiet_nil ?_
                    rintro _ rfl
                    go_wp2_with fail
                    exact ⟨⟨k + 1, hkt, by first | rw [hwk] | rw [Int.natCast_succ], J2.out⟩, by first | (rw [hwk]; exact mSucc hkt) | (rw [← Int.natCast_succ]; exact mSucc hkt)⟩
                · obtain ⟨ht0, ht1⟩ := HTN.out hrr
                  subst ht0 ht1
                  rw [HID.out] at d0
                  by_cases hcp : r.cp = r7.cp
                  · rw [← hcp] at d1
                    have hdr : r.dr ≠ r7.dr := fun e => hrr (by
                      have := HID.out
                      cases r; cases r7; simp_all)
                    clear hrr hcp
                    rcases h6 : r.dr with _ | _
                    · have h7 : r7.dr = true := by rw [h6] at hdr; cases h : r7.dr <;> simp_all
                      rw [h6] at c2
                      rw [h7] at d2
                      clear h6 h7 hdr
                      go_wp2_with fail
                      refine wp_region_quiet_tail (fun w' => w' = w6.drew) 16 (by kernel_rfl) (by kernel_rfl) rfl ?_
                      simp only [List.take_succ_cons, List.take_zero, List.drop_succ_cons, List.drop_zero]
                      iterate 16 ((with_reducible refine wpQuiet_step (fun K hK => ?_)); go_simp; first | (rw [if_neg (by decide)]; (with_reducible refine hK _ ?_); clear hK K) | ((with_reducible refine hK _ ?_); clear hK K) | (apply Exists.intro; (with_reducible refine ⟨fun w' hw' => ?_, hK _ ?_⟩); (subst hw'; first | (go_simp; first | exact rfl | exact ⟨rfl, rfl⟩) | exact rfl | exact ⟨rfl, rfl⟩); clear hK K))
                      refine wpQuiet_nil ?_
                      rintro _ rfl
                      go_wp2_with fail
                      exact ⟨⟨k + 1, hkt, by first | rw [hwk] | rw [Int.natCast_succ], J2.out⟩, by first | (rw [hwk]; exact mSucc hkt) | (rw [← Int.natCast_succ]; exact mSucc hkt)⟩
                    · have h7 : r7.dr = false := by rw [h6] at hdr; cases h : r7.dr <;> simp_all
                      rw [h6] at c2
                      rw [h7] at d2
                      clear h6 h7 hdr
                      go_wp2_with fail
                      refine wp_region_quiet_tail (fun w' => w' = w6.drew) 16 (by kernel_rfl) (by kernel_rfl) rfl ?_
                      simp only [List.take_succ_cons, List.take_zero, List.drop_succ_cons, List.drop_zero]
                      iterate 16 ((with_reducible refine wpQuiet_step (fun K hK => ?_)); go_simp; first | (rw [if_neg (by decide)]; (with_reducible refine hK _ ?_); clear hK K) | ((with_reducible refine hK _ ?_); clear hK K) | (apply Exists.intro; (with_reducible refine ⟨fun w' hw' => ?_, hK _ ?_⟩); (subst hw'; first | (go_simp; first | exact rfl | exact ⟨rfl, rfl⟩) | exact rfl | exact ⟨rfl, rfl⟩); clear hK K))
                      refine wpQuiet_nil ?_
                      rintro _ rfl
                      go_wp2_with fail
                      exact ⟨⟨k + 1, hkt, by first | rw [hwk] | rw [Int.natCast_succ], J2.out⟩, by first | (rw [hwk]; exact mSucc hkt) | (rw [← Int.natCast_succ]; exact mSucc hkt)⟩
                  · have hcpf : (r.cp == r7.cp) = false := by simpa using hcp
                    clear hrr hcp
                    go_wp2_with fail
                    refine wp_region_quiet_tail (fun w' => w' = w6.drew) 16 (by kernel_rfl) (by kernel_rfl) rfl ?_
                    simp only [List.take_succ_cons, List.take_zero, List.drop_succ_cons, List.drop_zero]
                    iterate 16 ((with_reducible refine wpQuiet_step (fun K hK => ?_)); go_simp; first | (rw [if_neg (by decide)]; (with_reducible refine hK _ ?_); clear hK K) | ((with_reducible refine hK _ ?_); clear hK K) | (apply Exists.intro; (with_reducible refine ⟨fun w' hw' => ?_, hK _ ?_⟩); (subst hw'; first | (go_simp; first | exact rfl | exact ⟨rfl, rfl⟩) | exact rfl | exact ⟨rfl, rfl⟩); clear hK K))
                    refine wpQuiet_nil ?_
                    rintro _ rfl
                    go_wp2_with fail
                    exact ⟨⟨k + 1, hkt, by first | rw [hwk] | rw [Int.natCast_succ], J2.out⟩, by first | (rw [hwk]; exact mSucc hkt) | (rw [← Int.natCast_succ]; exact mSucc hkt)⟩
          · obtain rfl : n = k := by omega
            have hki : ((n : Int) < (n : Int)) = False := by simp
            go_wp2_with fail
            go_ret
            exact ⟨rfl, J0.out.1⟩
end Go.Proofs.Ytlkbaplfffbmkaa

