/- One, Same of chapter 17; meters of one prefix. -/
import Derived.Test.YtfmehahjjgalfaaQai
import Derived.Test.YtfmehahjjgalfaaQak
import Derived.Test.YtfmehahjjgalfaaQaa
import Derived.ProofKit
import Derived.OpenShut
import Derived.Carry
import Derived.Deep.Slices
import Derived.Deep.Fields
import Derived.ChangeSame
import Derived.Test.YtfmehahjjgalfaaQad
namespace Go.Proofs.Ytfmehahjjgalfaa.Me
open Go.RowKit

theorem ten0 (w : World) : Calls Try.prog 60 #[.int .i64 0] w fun e w' => e = .returned (.agg #[.int .u32 167772160, .int .i64 16]) ∧ Below w.heap.size w w' := by
  have hb : bits .and .i64 0 255 = 0 := by decide
  have HB := Lib.hid ((Below.refl w.heap.size w).alloc (Nat.le_refl _) (.cells #[.int .u32 167772160, .int .i64 16] 58))
  go_enter Try.func60, Try.ntmps60
  go_wp2_with fail
  refine ret_cell (b := w.heap.size) rfl rfl rfl (hnew _ _) Try.underlying58 rfl (by kernel_rfl) ?_
  exact ⟨rfl, HB.out⟩
theorem RCt.one {w : World} {b : Nat} {k : PK} {n : Int} {T : TypeId} (h : w.heap[b]? = some (.cells #[.int .u32 (k.1 : Int), .int .i64 k.2, .int .i64 n] T)) : RCt.Sl w (some ⟨b, 0, none⟩) 1 1 [⟨k, n⟩] := Rep.sl_one (R := RCt) (y := ⟨k, n⟩) h
set_option maxRecDepth 100000 in
set_option maxHeartbeats 1000000 in
theorem one_any (s q : Int) (k : PK) (n : Int) (w : World) : Calls Try.prog 59 #[.int .i64 s, .int .i64 q, .agg #[.int .u32 (k.1 : Int), .int .i64 k.2], .int .i64 n] w fun e w' => ∃ b, e = .returned (.agg #[.int .i64 s, .int .i64 q, .slice (some ⟨b, 0, none⟩) 1 1]) ∧ RCt.Sl w' (some ⟨b, 0, none⟩) 1 1 [⟨k, n⟩] ∧ Below w.heap.size w w' := by
  have hal := ((Below.refl w.heap.size w).alloc (Nat.le_refl _) (.cells #[.int .u32 (k.1 : Int), .int .i64 k.2] 58)).alloc (by simp) (.cells #[.int .i64 0, .int .i64 0, .slice none 0 0] 82)
  have h1 : BxP w.heap.size k ((w.alloc (.cells #[.int .u32 (k.1 : Int), .int .i64 k.2] 58)).alloc (.cells #[.int .i64 0, .int .i64 0, .slice none 0 0] 82)) := hold (hnew _ _)
  have h2 : ((w.alloc (.cells #[.int .u32 (k.1 : Int), .int .i64 k.2] 58)).alloc (.cells #[.int .i64 0, .int .i64 0, .slice none 0 0] 82)).heap[w.heap.size + 1]? = some (.cells #[.int .i64 0, .int .i64 0, .slice none 0 0] 82) := hnewAt (by simp)
  obtain ⟨x0, x1⟩ := h1.cells
  have F := Lib.hid (And.intro hal h2)
  clear hal h1 h2
  go_enter Try.func59, Try.ntmps59
  go_wp2_with (with_reducible refine halt_store 82 (x := .tmp 8) rfl ?_)
  refine Halted.go ?_
  obtain ⟨W1, hW1⟩ : ∃ W, (w.alloc (.cells #[.int .u32 (k.1 : Int), .int .i64 k.2] 58)).alloc (.cells #[.int .i64 0, .int .i64 0, .slice none 0 0] 82) = W := ⟨_, rfl⟩
  obtain ⟨qr, hqr⟩ : ∃ q, w.heap.size + 1 = q := ⟨_, rfl⟩
  have F1 := Lib.hid (show Below w.heap.size w W1 ∧ W1.heap[qr]? = some (.cells #[.int .i64 0, .int .i64 0, .slice none 0 0] 82) from hqr ▸ hW1 ▸ F.out)
  have hs1 : W1.heap.size = qr + 1 := by rw [← hW1, ← hqr]; simp
  simp only [hW1, hqr]
  clear F x0 x1
  have hal := (Below.refl W1.heap.size W1).alloc (Nat.le_refl _) (.cells #[.int .u32 (k.1 : Int), .int .i64 k.2, .int .i64 n] 128)
  have hc : (W1.alloc (.cells #[.int .u32 (k.1 : Int), .int .i64 k.2, .int .i64 n] 128)).heap[qr + 1]? = some (.cells #[.int .u32 (k.1 : Int), .int .i64 k.2, .int .i64 n] 128) := hnewAt hs1.symm
  refine store_whole rfl 82 _ _ rfl qr #[.int .i64 s, .int .i64 q, .slice (some ⟨qr + 1, 0, none⟩) 1 1] rfl rfl ((hal.block _ (lt_of_blk F1.out.2)).trans F1.out.2) rfl (by kernel_rfl) (by simp [Value.oneCell']) ?_
  intro Wz hwz hsz
  have hne : qr + 1 ≠ qr := by omega
  have HZ := Lib.hid (And.intro hwz (And.intro ((hsz.other hne).trans hc) ((bcall F1.out.1 (Nat.le_refl _) hal).trans (hsz.below (show w.heap.size ≤ qr from by omega)))))
  clear hwz hsz hal hc hne
  go_wp2_with fail
  refine ret_cell rfl rfl rfl HZ.out.1 Try.underlying82 rfl (by kernel_rfl) ?_
  exact ⟨_, rfl, RCt.one HZ.out.2.1, HZ.out.2.2⟩
set_option maxRecDepth 100000 in
theorem same17 {w : World} {oa ob : Option Addr} {n ca cb : Nat} {l : List Ct} (h1 : RCt.Sl w oa n ca l) (h2 : RCt.Sl w ob n cb l) : Calls Try.prog 54 #[.slice oa n ca, .slice ob n cb] w fun e w' => e = .returned (.bool true) ∧ Below w.heap.size w w' := by
  have hmax := h1.max
  have F := Lib.hid (And.intro h1 h2)
  clear h1 h2
  go_enter Try.func54, Try.ntmps54
  go_wp2_with fail
  go_loopw [5] (fun iv wr => ∃ i : Nat, i ≤ n ∧ iv = .int .i64 i ∧ Below w.heap.size w wr) (fun iv _ => n - (intOf iv).toNat)
  case atStart => exact ⟨0, Nat.zero_le _, rfl, Below.refl _ _⟩
  case round =>
    obtain ⟨i, hi, rfl, hb⟩ := hrel
    obtain ⟨w2, rfl⟩ : ∃ w2 : World, w2 = wr := ⟨_, rfl⟩
    by_cases hlt : i < n
    · have hil : ((i : Int) < (n : Int)) = True := by simp; omega
      have hi0 : ((0 : Int) ≤ (i : Int)) = True := by simp
      have hw3 := wrapS hlt hmax
      obtain ⟨b0, o0, rfl, hbb, hat⟩ := (F.out.1.keep hb).at hlt
      obtain ⟨b1, o1, rfl, hbb1, hat1⟩ := (F.out.2.keep hb).at hlt
      generalize l.getD i default = x at *
      have c0 := hat 0 (by decide)
      have c1 := hat 1 (by decide)
      have c2 := hat 2 (by decide)
      have d0 := hat1 0 (by decide)
      have d1 := hat1 1 (by decide)
      have d2 := hat1 2 (by decide)
      simp only [RCt, Nat.add_zero, List.getElem?_cons_zero, List.getElem?_cons_succ] at c0 c1 c2 d0 d1 d2
      have HB := Lib.hid hb.drew
      clear hb hat hat1 hbb hbb1
      go_wp2_with fail
      refine wp_region_quiet_tail (fun w' => w' = w2.drew) 8 (by kernel_rfl) (by kernel_rfl) rfl ?_
      simp only [List.take_succ_cons, List.take_zero, List.drop_succ_cons, List.drop_zero]
      iterate 8 ((with_reducible refine wpQuiet_step (fun K hK => ?_)); go_simp; first | (rw [if_neg (by decide)]; (with_reducible refine hK _ ?_); clear hK K) | ((with_reducible refine hK _ ?_); clear hK K) | (apply Exists.intro; (with_reducible refine ⟨fun w' hw' => ?_, hK _ ?_⟩); (subst hw'; first | (go_simp; first | exact rfl | exact ⟨rfl, rfl⟩) | exact rfl | exact ⟨rfl, rfl⟩); clear hK K))
      refine wpQuiet_nil ?_
      rintro _ rfl
      go_wp2_with fail
      exact ⟨⟨i + 1, hlt, by first | rw [hw3] | rw [Int.natCast_succ], HB.out⟩, by first | (rw [hw3]; exact mSucc hlt) | (rw [← Int.natCast_succ]; exact mSucc hlt)⟩
    · obtain rfl : n = i := by omega
      have hil : ((n : Int) < (n : Int)) = False := by simp
      have HB := Lib.hid hb
      clear hb
      go_wp2_with fail
      go_ret
      exact ⟨rfl, HB.out⟩
/-- all reports tell of one prefix -/
def Lone (X : Nat → Src) (k : PK) : Prop := ∀ i, i < 16 → ∀ r, (X i).last = some r → ∀ j ∈ r.cs.map Ct.p, j = k
def demL (X : Nat → Src) (k : PK) : List Ct := if 0 < demI X k 16 then [⟨k, demI X k 16⟩] else []
theorem addI_left {n : Int} (h : 0 ≤ n ∧ n ≤ 9007199254740991) : addI 0 n = n := by
  unfold addI
  rw [nearI_id h, nearI_id (n := 0) (by omega), Int.zero_add, nearI_id h]
set_option maxRecDepth 10000 in
theorem dem_lone {X : Nat → Src} (hok : ∀ i, i < 16 → (X i).ok) {k : PK} (h : Lone X k) : Dem X (demL X k) := by
  unfold demL
  have h0 : ∀ x : Ct, 0 < x.n → x.n = demI X x.p 16 → x.p = k := fun x h1 h2 => Classical.byContradiction fun hne => by
    have h3 : ¬ InL X 16 x.p := fun ⟨j, hj, r, hr, hm⟩ => hne (h j hj r hr _ hm)
    have h4 := demI_no hok (Nat.le_refl 16) h3
    rw [h4] at h2
    exact absurd h1 (by rw [h2]; decide)
  split
  · rename_i hp
    refine ⟨List.pairwise_singleton _ _, fun x => ?_⟩
    rw [List.mem_singleton]
    constructor
    · rintro rfl; exact ⟨hp, rfl⟩
    · rintro ⟨h1, h2⟩
      have h3 := h0 x h1 h2
      subst h3
      cases x; simp_all
  · rename_i hp
    refine ⟨List.Pairwise.nil, fun x => ⟨fun hx => (by cases hx), fun ⟨h1, h2⟩ => ?_⟩⟩
    have h3 := h0 x h1 h2
    rw [h2, h3] at h1
    exact absurd h1 hp
theorem sum_lone {X : Nat → Src} {k : PK} : sumC (demL X k) = demI X k 16 := by
  have h := demI_in X k 16
  unfold demL
  generalize demI X k 16 = d at *
  split
  · exact addI_left h
  · show 0 = _
    omega
end Go.Proofs.Ytfmehahjjgalfaa.Me
/- lives of chapter 17. -/
namespace Go.Proofs.Ytfmehahjjgalfaa.Me
open Go.RowKit

def c1 : PK := (167837696, 16)
theorem okK {a : Nat} {n : Int} (h1 : a < 4294967296) (h2 : -9223372036854775808 ≤ n ∧ n ≤ 9223372036854775807) : PN.ok (a, n) := ⟨wfU ⟨by show (0 : Int) ≤ ((a : Nat) : Int); omega, by show ((a : Nat) : Int) ≤ 4294967295; omega⟩, wfI h2⟩
theorem okc1 : PN.ok c1 := okK (by decide) (by decide)
theorem Cts.one {w : World} {b : Nat} {k : PK} {n : Int} (h : RCt.Sl w (some ⟨b, 0, none⟩) 1 1 [⟨k, n⟩]) (hk : k.1 < 4294967296 ∧ PN.ok k) : Cts w (some ⟨b, 0, none⟩) 1 1 [⟨k, n⟩] := ⟨h, fun x hx => by rw [List.mem_singleton] at hx; subst hx; exact hk⟩
theorem Cts.none {w : World} : Cts w none 0 0 [] := ⟨Rep.sl_nil, fun x hx => by cases hx⟩
def X0 : Nat → Src := fun _ => ⟨none, none⟩
def X1 : Nat → Src := takeX X0 1 1 [⟨c1, 100⟩] 5
def X2 : Nat → Src := takeX X1 1 2 [⟨c1, 160⟩] 8
set_option maxRecDepth 100000 in
theorem tE1 : takeE X0 1 1 [⟨c1, 100⟩] 5 = 0 := by decide
theorem x1_eq : X1 = fun j => if j = 1 then ⟨some ⟨1, 5, [⟨c1, 100⟩]⟩, none⟩ else ⟨none, none⟩ := by unfold X1 takeX; rw [if_pos tE1]; rfl
set_option maxRecDepth 100000 in
theorem tE2 : takeE X1 1 2 [⟨c1, 160⟩] 8 = 0 := by rw [x1_eq]; decide
theorem x2_eq : X2 = fun j => if j = 1 then ⟨some ⟨2, 8, [⟨c1, 160⟩]⟩, some ⟨1, 5, [⟨c1, 100⟩]⟩⟩ else ⟨none, none⟩ := by
  unfold X2 takeX
  rw [if_pos tE2, x1_eq]
  funext j
  by_cases h : j = 1
  · subst h; rfl
  · have h2 : j ≠ (1 : Int).toNat := h
    simp only [if_neg h, if_neg h2]
set_option maxRecDepth 100000 in
theorem tE3 : takeE X2 1 2 [⟨c1, 999⟩] 9 = 170 := by rw [x2_eq]; decide
set_option maxRecDepth 100000 in
theorem tE4 : takeE X2 16 0 [] 9 = 1 := by rw [x2_eq]; decide
set_option maxRecDepth 100000 in
theorem dI1 : demI X1 c1 16 = 0 := by rw [x1_eq]; decide
set_option maxRecDepth 100000 in
theorem dI2 : demI X2 c1 16 = 20 := by rw [x2_eq]; decide
theorem st1 : stampV X2 1 = 8 ∧ stampB X2 1 = true := by rw [x2_eq]; decide
theorem st2 : stampV X2 2 = 0 ∧ stampB X2 2 = false := by rw [x2_eq]; decide
theorem lone2 : Lone X2 c1 := by
  rw [x2_eq]
  intro i _ r hr j hj
  by_cases h : i = 1
  · subst h
    cases hr
    simpa using hj
  · simp only [if_neg h] at hr
    cases hr
theorem dem2 (hok : ∀ i, i < 16 → (X2 i).ok) : Dem X2 [⟨c1, 20⟩] := by
  have h := dem_lone hok lone2
  unfold demL at h
  rw [dI2] at h
  exact h
theorem chk5 : (if chkR 0 (-1) [] then (0 : Int) else 1) = 1 := by decide
set_option maxRecDepth 100000 in
set_option maxHeartbeats 8000000 in
theorem lives17 (w : World) : Calls Try.prog 45 #[] w fun e w' => e = .returned (.bool true) ∧ Below w.heap.size w w' := by
  go_enter Try.func45, Try.ntmps45
  go_wp2_with fail
  refine (mnew_any _).mono ?_
  rintro e W1 ⟨rfl, hT, hb⟩
  have HBM := Lib.hid (Nat.le_refl w.heap.size)
  have F0 := Lib.hid (And.intro hb (show MetAt W1 w.heap.size X0 from hT))
  clear hT hb
  obtain ⟨m, hm⟩ : ∃ m, w.heap.size = m := ⟨_, rfl⟩
  have F0 := Lib.hid (show Below w.heap.size w W1 ∧ MetAt W1 m X0 from hm ▸ F0.out)
  have HBM := Lib.hid (show w.heap.size ≤ m from Nat.le_of_eq hm)
  rw [hm]
  clear hm
  go_wp2_with fail
  refine (ten1 _).mono ?_
  rintro e W2 ⟨rfl, hb⟩
  have F30 := Lib.hid (And.intro (bcall F0.out.1 (Nat.le_refl _) hb) ((F0.out.2.keep hb)))
  clear F0
  clear hb
  go_wp2_with fail
  refine (one_any 1 1 c1 100 _).mono ?_
  rintro e W3 ⟨b1, rfl, hs, hb⟩
  have F31 := Lib.hid (And.intro (bcall F30.out.1 (Nat.le_refl _) hb) (And.intro (F30.out.2.keep hb) (hs)))
  clear F30
  clear hb hs
  go_wp2_with fail
  have hg := take_any F31.out.2.1 (Cts.one F31.out.2.2 ⟨by decide, okc1⟩) 1 1 5
  rw [tE1] at hg
  refine hg.mono ?_
  rintro e W4 ⟨rfl, hs⟩
  have htab := hs.met
  have hbt := hs.but
  clear hs hg
  have F32 := Lib.hid (And.intro (Below.step F31.out.1 F31.out.1.size hbt (by simp; exact HBM.out)) (htab))
  clear F31
  clear htab hbt
  go_wp2_with fail
  refine (ten1 _).mono ?_
  rintro e W5 ⟨rfl, hb⟩
  have F33 := Lib.hid (And.intro (bcall F32.out.1 (Nat.le_refl _) hb) ((F32.out.2.keep hb)))
  clear F32
  clear hb
  go_wp2_with fail
  have hg := demand_any (X := X1) F33.out.2 okc1
  rw [dI1] at hg
  refine hg.mono ?_
  rintro e W6 ⟨rfl, hb⟩
  clear hg
  have F34 := Lib.hid (And.intro (bcall F33.out.1 (Nat.le_refl _) hb) ((F33.out.2.keep hb)))
  clear F33
  clear hb
  go_wp2_with fail
  refine (ten1 _).mono ?_
  rintro e W7 ⟨rfl, hb⟩
  have F35 := Lib.hid (And.intro (bcall F34.out.1 (Nat.le_refl _) hb) ((F34.out.2.keep hb)))
  clear F34
  clear hb
  go_wp2_with fail
  refine (one_any 1 2 c1 160 _).mono ?_
  rintro e W8 ⟨b2, rfl, hs, hb⟩
  have F36 := Lib.hid (And.intro (bcall F35.out.1 (Nat.le_refl _) hb) (And.intro (F35.out.2.keep hb) (hs)))
  clear F35
  clear hb hs
  go_wp2_with fail
  have hg := take_any (X := X1) F36.out.2.1 (Cts.one F36.out.2.2 ⟨by decide, okc1⟩) 1 2 8
  rw [tE2] at hg
  refine hg.mono ?_
  rintro e W9 ⟨rfl, hs⟩
  have htab := hs.met
  have hbt := hs.but
  clear hs hg
  have F37 := Lib.hid (And.intro (Below.step F36.out.1 F36.out.1.size hbt (by simp; exact HBM.out)) (htab))
  clear F36
  clear htab hbt
  go_wp2_with fail
  refine (ten1 _).mono ?_
  rintro e W10 ⟨rfl, hb⟩
  have F38 := Lib.hid (And.intro (bcall F37.out.1 (Nat.le_refl _) hb) ((F37.out.2.keep hb)))
  clear F37
  clear hb
  go_wp2_with fail
  refine (one_any 1 2 c1 999 _).mono ?_
  rintro e W11 ⟨b3, rfl, hs, hb⟩
  have F39 := Lib.hid (And.intro (bcall F38.out.1 (Nat.le_refl _) hb) (And.intro (F38.out.2.keep hb) (hs)))
  clear F38
  clear hb hs
  go_wp2_with fail
  have hg := take_any (X := X2) F39.out.2.1 (Cts.one F39.out.2.2 ⟨by decide, okc1⟩) 1 2 9
  rw [tE3, takeX_no (by rw [tE3]; decide)] at hg
  refine hg.mono ?_
  rintro e W12 ⟨rfl, hs⟩
  have htab := hs.met
  have hbt := hs.but
  clear hs hg
  have F40 := Lib.hid (And.intro (Below.step F39.out.1 F39.out.1.size hbt (by simp; exact HBM.out)) (htab))
  clear F39
  clear htab hbt
  go_wp2_with fail
  have hg := take_any (X := X2) F40.out.2 Cts.none 16 0 9
  rw [tE4, takeX_no (by rw [tE4]; decide)] at hg
  refine hg.mono ?_
  rintro e W13 ⟨rfl, hs⟩
  have htab := hs.met
  have hbt := hs.but
  clear hs hg
  have F41 := Lib.hid (And.intro (Below.step F40.out.1 F40.out.1.size hbt (by simp; exact HBM.out)) (htab))
  clear F40
  clear htab hbt
  go_wp2_with fail
  refine (ten1 _).mono ?_
  rintro e W14 ⟨rfl, hb⟩
  have F42 := Lib.hid (And.intro (bcall F41.out.1 (Nat.le_refl _) hb) ((F41.out.2.keep hb)))
  clear F41
  clear hb
  go_wp2_with fail
  have hg := demand_any (X := X2) F42.out.2 okc1
  rw [dI2] at hg
  refine hg.mono ?_
  rintro e W15 ⟨rfl, hb⟩
  clear hg
  have F43 := Lib.hid (And.intro (bcall F42.out.1 (Nat.le_refl _) hb) ((F42.out.2.keep hb)))
  clear F42
  clear hb
  go_wp2_with fail
  refine (demands_any (X := X2) F43.out.2).mono ?_
  rintro e W16 ⟨v, L, rfl, hr⟩
  have hL := hr.dem.one (dem2 (MetAt.ok F43.out.2))
  have hown := hr.own
  have hb := hr.bel
  rw [hL] at hown
  obtain ⟨oa, cc, rfl, hsl, -⟩ := hown.sl0
  rw [show ([⟨c1, 20⟩] : List Ct).length = 1 from rfl] at hsl ⊢
  have F44 := Lib.hid (And.intro (bcall F43.out.1 (Nat.le_refl _) hb) (And.intro (F43.out.2.keep hb) (hsl)))
  clear F43
  clear hr hL hown hb hsl
  go_wp2_with fail
  have hg := stamp_any (X := X2) F44.out.2.1 1
  rw [st1.1, st1.2] at hg
  refine hg.mono ?_
  rintro e Wx ⟨rfl, hw⟩
  clear hg
  subst hw
  go_wp2_with fail
  have hg := stamp_any (X := X2) F44.out.2.1 2
  rw [st2.1, st2.2] at hg
  refine hg.mono ?_
  rintro e Wx ⟨rfl, hw⟩
  clear hg
  subst hw
  go_wp2_with fail
  refine (ten1 _).mono ?_
  rintro e W17 ⟨rfl, hb⟩
  have F45 := Lib.hid (And.intro (bcall F44.out.1 (Nat.le_refl _) hb) (And.intro (F44.out.2.1.keep hb) ((F44.out.2.2.keep hb))))
  clear F44
  clear hb
  have hal := (Below.refl W17.heap.size W17).alloc (Nat.le_refl _) (.cells #[.int .u32 167837696, .int .i64 16, .int .i64 20] 128)
  have hs2 : RCt.Sl (W17.alloc (.cells #[.int .u32 167837696, .int .i64 16, .int .i64 20] 128)) (some ⟨W17.heap.size, 0, none⟩) 1 1 [⟨c1, 20⟩] := RCt.one (k := c1) (n := 20) (hnew _ _)
  have HS2 := Lib.hid hs2
  have F46 := Lib.hid (And.intro (bcall F45.out.1 (Nat.le_refl _) hal) (And.intro (F45.out.2.1.keep hal) ((F45.out.2.2.keep hal))))
  clear F45
  clear hal hs2
  go_wp2_with fail
  generalize W17.alloc (.cells #[.int .u32 167837696, .int .i64 16, .int .i64 20] 128) = W18 at *
  generalize W17.heap.size = r2 at *
  refine (same17 F46.out.2.2 HS2.out).mono ?_
  rintro e W19 ⟨rfl, hb⟩
  have F47 := Lib.hid (And.intro (bcall F46.out.1 (Nat.le_refl _) hb) (And.intro (F46.out.2.1.keep hb) ((F46.out.2.2.keep hb))))
  clear F46
  clear hb
  go_wp2_with fail
  refine (over_any (X := X2) F47.out.2.1).mono ?_
  rintro e W20 ⟨L2, hd2, rfl, hb⟩
  have hL2 := hd2.one (dem2 (MetAt.ok F47.out.2.1))
  rw [hL2, show (sumC [⟨c1, 20⟩] == 9007199254740991) = false from by decide]
  have F48 := Lib.hid (And.intro (bcall F47.out.1 (Nat.le_refl _) hb) (And.intro (F47.out.2.1.keep hb) ((F47.out.2.2.keep hb))))
  clear F47
  clear hb hd2 hL2
  go_wp2_with fail
  have hg := mcheck_any (w := W20) Cts.none 0 (-1)
  rw [chk5] at hg
  refine hg.mono ?_
  rintro e W21 ⟨rfl, hb⟩
  clear hg
  have F49 := Lib.hid (And.intro (bcall F48.out.1 (Nat.le_refl _) hb) (And.intro (F48.out.2.1.keep hb) ((F48.out.2.2.keep hb))))
  clear F48
  clear hb
  go_wp2_with fail
  go_ret
  exact ⟨rfl, F49.out.1⟩
end Go.Proofs.Ytfmehahjjgalfaa.Me
/- MeterOnce: the law's walk. -/
namespace Go.Proofs.Ytfmehahjjgalfaa.Me
open Go.RowKit

theorem take_src {X : Nat → Src} {src seq : Int} {L : List Ct} {now : Int} (h : takeE X src seq L now = 0) : chkR src seq L = true ∧ inM now = true := by
  unfold takeE at h
  cases hc : (chkR src seq L && inM now) with
  | false => rw [hc, if_pos rfl] at h; cases h
  | true => simpa [Bool.and_eq_true] using hc
theorem chkR_src {src seq : Int} {L : List Ct} (h : chkR src seq L = true) : inS src = true := by
  unfold chkR at h
  rw [Bool.and_eq_true, Bool.and_eq_true] at h
  exact h.2.1
theorem once_ahead (src seq : Int) (L : List Ct) (now : Int) (i : Nat) : (takeX X0 src seq L now i).ahead = none := by
  unfold takeX
  split
  · by_cases h : i = src.toNat
    · simp only [if_pos h]; rfl
    · simp only [if_neg h]; rfl
  · rfl
theorem demI_zero {X : Nat → Src} {k : PK} (h : ∀ i, rateS (X i) k = 0) : ∀ i, demI X k i = 0
  | 0 => rfl
  | i + 1 => by show addI _ _ = 0; rw [demI_zero h i, h i]; rfl
theorem once_dem (src seq : Int) (L : List Ct) (now : Int) : Dem (takeX X0 src seq L now) [] := by
  refine ⟨List.Pairwise.nil, fun x => ⟨fun h => (by cases h), fun ⟨h1, h2⟩ => ?_⟩⟩
  rw [demI_zero (fun i => by unfold rateS; rw [once_ahead]) 16] at h2
  omega
theorem once_yes {src seq : Int} {L : List Ct} {now : Int} (h : takeE X0 src seq L now = 0) : stampV (takeX X0 src seq L now) src = now ∧ stampB (takeX X0 src seq L now) src = true := by
  have hs := chkR_src (take_src h).1
  have hx : (takeX X0 src seq L now src.toNat).last = some ⟨seq, now, L⟩ := by
    unfold takeX
    rw [if_pos h]
    show (if src.toNat = src.toNat then (⟨some ⟨seq, now, L⟩, (X0 src.toNat).last⟩ : Src) else X0 src.toNat).last = _
    rw [if_pos rfl]
  unfold stampV stampB
  rw [hs, hx]
  exact ⟨rfl, rfl⟩
theorem once_no {src seq : Int} {L : List Ct} {now : Int} (h : takeE X0 src seq L now ≠ 0) : stampV (takeX X0 src seq L now) src = 0 ∧ stampB (takeX X0 src seq L now) src = false := by
  rw [takeX_no h]
  unfold stampV stampB X0
  exact ⟨by split <;> rfl, by cases inS src <;> rfl⟩
set_option maxRecDepth 100000 in
set_option maxHeartbeats 4000000 in
theorem monce_law {w : World} {oa : Option Addr} {n c : Nat} {L : List Ct} (HC : Cts w oa n c L) (src seq now : Int) : Calls Try.prog 15 #[.agg #[.int .i64 src, .int .i64 seq, .slice oa n c], .int .i64 now] w fun e w' => e = .returned (.bool true) ∧ Below w.heap.size w w' := by
  have hal := (Below.refl w.heap.size w).alloc (Nat.le_refl _) (.cells #[.int .i64 src, .int .i64 seq, .slice oa n c] 82)
  have hks : RpS w.heap.size src seq oa n c (w.alloc (.cells #[.int .i64 src, .int .i64 seq, .slice oa n c] 82)) := hnew _ _
  have F := Lib.hid (And.intro hal (And.intro hks (HC.keep hal)))
  obtain ⟨z0, z1, z2⟩ := hks.cells
  clear hal hks HC
  by_cases h200 : 200 < n
  · have h2t : ((200 : Int) < (n : Int)) = True := by simp; omega
    clear h200
    go_enter Try.func15, Try.ntmps15
    go_wp2_with fail
    refine (lives17 _).mono ?_
    rintro e W1 ⟨rfl, hb⟩
    have F2 := Lib.hid (bcall F.out.1 (Nat.le_refl _) hb)
    clear hb
    go_wp2_with fail
    go_ret
    exact ⟨rfl, F2.out⟩
  have h2t : ((200 : Int) < (n : Int)) = False := by simp; omega
  clear h200
  by_cases hE : takeE X0 src seq L now = 0
  · have HE := Lib.hid (And.intro hE (once_yes hE))
    clear hE
    go_enter Try.func15, Try.ntmps15
    go_wp2_with fail
    obtain ⟨q, hq⟩ : ∃ q, w.heap.size = q := ⟨_, rfl⟩
    obtain ⟨W0, hW0⟩ : ∃ W, w.alloc (.cells #[.int .i64 src, .int .i64 seq, .slice oa n c] 82) = W := ⟨_, rfl⟩
    have F1 := Lib.hid (show Below w.heap.size w W0 ∧ RpS q src seq oa n c W0 ∧ Cts W0 oa n c L from hq ▸ hW0 ▸ F.out)
    rw [hW0, hq]
    clear hW0 hq F z0 z1 z2
    refine (mnew_any _).mono ?_
    rintro e W1 ⟨rfl, hT, hb⟩
    have HBM := Lib.hid F1.out.1.size
    have F2 := Lib.hid (And.intro (bcall F1.out.1 (Nat.le_refl _) hb) (And.intro (show MetAt W1 W0.heap.size X0 from hT) (And.intro (F1.out.2.1.keep hb) (F1.out.2.2.keep hb))))
    have HQM := Lib.hid (show q ≠ W0.heap.size from Nat.ne_of_lt (lt_of_blk F1.out.2.1))
    clear hT hb F1
    generalize W0.heap.size = m at *
    go_wp2_with fail
    refine (lives17 _).mono ?_
    rintro e W2 ⟨rfl, hb⟩
    have F3 := Lib.hid (And.intro (bcall F2.out.1 (Nat.le_refl _) hb) (And.intro (F2.out.2.1.keep hb) (And.intro (F2.out.2.2.1.keep hb) (F2.out.2.2.2.keep hb))))
    clear hb F2
    obtain ⟨z0, z1, z2⟩ := F3.out.2.2.1.cells
    go_wp2_with fail
    have hg := take_any F3.out.2.1 F3.out.2.2.2 src seq now
    rw [HE.out.1] at hg
    refine hg.mono ?_
    rintro e W4 ⟨rfl, hs⟩
    have F4 := Lib.hid (And.intro (Below.step F3.out.1 F3.out.1.size hs.but (by simp; exact HBM.out)) (And.intro hs.met (show RpS q src seq oa n c W4 from (hs.but.block _ (lt_of_blk F3.out.2.2.1) (by simp; exact HQM.out)).trans F3.out.2.2.1)))
    clear hg hs F3 z0 z1 z2
    obtain ⟨z0, z1, z2⟩ := F4.out.2.2.cells
    go_wp2_with fail
    have hg := stamp_any F4.out.2.1 src
    rw [HE.out.2.1, HE.out.2.2] at hg
    refine hg.mono ?_
    rintro e W5 ⟨rfl, hw5⟩
    subst hw5
    clear hg z0 z1 z2
    go_wp2_with fail
    refine (demands_any F4.out.2.1).mono ?_
    rintro e W6 ⟨v, M, rfl, hr⟩
    have hM := hr.dem.one (once_dem src seq L now)
    have hown := hr.own
    rw [hM] at hown
    obtain ⟨oq, cq, rfl, -, -⟩ := hown.sl0
    rw [show ([] : List Ct).length = 0 from rfl]
    have F5 := Lib.hid (And.intro (bcall F4.out.1 (Nat.le_refl _) hr.bel) (F4.out.2.1.keep hr.bel))
    clear hr hM hown F4
    go_wp2_with fail
    refine (over_any F5.out.2).mono ?_
    rintro e W7 ⟨M2, hd2, rfl, hb⟩
    rw [hd2.one (once_dem src seq L now), show (sumC [] == 9007199254740991) = false from by decide]
    have F6 := Lib.hid (bcall F5.out.1 (Nat.le_refl _) hb)
    clear hd2 hb F5
    go_wp2_with fail
    go_ret
    exact ⟨rfl, F6.out⟩
  · have HE := Lib.hid (And.intro hE (once_no hE))
    have hk0 : (takeE X0 src seq L now == 0) = false := by simpa using hE
    clear hE
    go_enter Try.func15, Try.ntmps15
    go_wp2_with fail
    obtain ⟨q, hq⟩ : ∃ q, w.heap.size = q := ⟨_, rfl⟩
    obtain ⟨W0, hW0⟩ : ∃ W, w.alloc (.cells #[.int .i64 src, .int .i64 seq, .slice oa n c] 82) = W := ⟨_, rfl⟩
    have F1 := Lib.hid (show Below w.heap.size w W0 ∧ RpS q src seq oa n c W0 ∧ Cts W0 oa n c L from hq ▸ hW0 ▸ F.out)
    rw [hW0, hq]
    clear hW0 hq F z0 z1 z2
    refine (mnew_any _).mono ?_
    rintro e W1 ⟨rfl, hT, hb⟩
    have HBM := Lib.hid F1.out.1.size
    have F2 := Lib.hid (And.intro (bcall F1.out.1 (Nat.le_refl _) hb) (And.intro (show MetAt W1 W0.heap.size X0 from hT) (And.intro (F1.out.2.1.keep hb) (F1.out.2.2.keep hb))))
    have HQM := Lib.hid (show q ≠ W0.heap.size from Nat.ne_of_lt (lt_of_blk F1.out.2.1))
    clear hT hb F1
    generalize W0.heap.size = m at *
    go_wp2_with fail
    refine (lives17 _).mono ?_
    rintro e W2 ⟨rfl, hb⟩
    have F3 := Lib.hid (And.intro (bcall F2.out.1 (Nat.le_refl _) hb) (And.intro (F2.out.2.1.keep hb) (And.intro (F2.out.2.2.1.keep hb) (F2.out.2.2.2.keep hb))))
    clear hb F2
    obtain ⟨z0, z1, z2⟩ := F3.out.2.2.1.cells
    go_wp2_with fail
    have hg := take_any F3.out.2.1 F3.out.2.2.2 src seq now
    obtain ⟨k, hk⟩ : ∃ k, takeE X0 src seq L now = k := ⟨_, rfl⟩
    rw [hk] at hg hk0
    clear hk
    refine hg.mono ?_
    rintro e W4 ⟨rfl, hs⟩
    have F4 := Lib.hid (And.intro (Below.step F3.out.1 F3.out.1.size hs.but (by simp; exact HBM.out)) (And.intro hs.met (show RpS q src seq oa n c W4 from (hs.but.block _ (lt_of_blk F3.out.2.2.1) (by simp; exact HQM.out)).trans F3.out.2.2.1)))
    clear hg hs F3 z0 z1 z2
    obtain ⟨z0, z1, z2⟩ := F4.out.2.2.cells
    go_wp2_with fail
    have hg := stamp_any F4.out.2.1 src
    rw [HE.out.2.1, HE.out.2.2] at hg
    refine hg.mono ?_
    rintro e W5 ⟨rfl, hw5⟩
    subst hw5
    clear hg z0 z1 z2
    go_wp2_with fail
    refine (demands_any F4.out.2.1).mono ?_
    rintro e W6 ⟨v, M, rfl, hr⟩
    have hM := hr.dem.one (once_dem src seq L now)
    have hown := hr.own
    rw [hM] at hown
    obtain ⟨oq, cq, rfl, -, -⟩ := hown.sl0
    rw [show ([] : List Ct).length = 0 from rfl]
    have F5 := Lib.hid (And.intro (bcall F4.out.1 (Nat.le_refl _) hr.bel) (F4.out.2.1.keep hr.bel))
    clear hr hM hown F4
    go_wp2_with fail
    refine (over_any F5.out.2).mono ?_
    rintro e W7 ⟨M2, hd2, rfl, hb⟩
    rw [hd2.one (once_dem src seq L now), show (sumC [] == 9007199254740991) = false from by decide]
    have F6 := Lib.hid (bcall F5.out.1 (Nat.le_refl _) hb)
    clear hd2 hb F5
    go_wp2_with fail
    go_ret
    exact ⟨rfl, F6.out⟩
end Go.Proofs.Ytfmehahjjgalfaa.Me
/- What an argument that reads as data is in memory: ints, bools, strings, slices; structs by 'Reads.struct'. -/
namespace Go.Proofs.Ytfmehahjjgalfaa
open Go.ChangeShapes Go.WideShapes Go.ChangeAt Go.RowKit Go.Deep

/-- cells that read as data of type T are those of some a -/
structure Reads (P : Program) (T : TypeId) {α : Type} (cells : α → List Value) (ok : World → α → Prop) : Prop where
  read : ∀ {H : Type} {enc : TypeId × Value → H} {w : World} {spare : Nat → Bool} {held : Bool} {fuel : Nat} {cs : List Value} {x : DataW H × List MemPlace}, DataW.trod enc P w 0 spare held fuel T cs = some x → ∃ a, cs = cells a ∧ ok w a
theorem Reads.int {P : Program} {T : TypeId} {k : IntKind} (ht : P.underlying T = some (.int k)) : Reads P T (fun n : Int => [.int k n]) (fun _ n => (Lit.int k n).wf = true) :=
  ⟨fun h => by obtain ⟨n, e, _, hw⟩ := DataW.trod_int ht h; exact ⟨n, e, hw⟩⟩
theorem Reads.bool {P : Program} {T : TypeId} (ht : P.underlying T = some .bool) : Reads P T (fun b : Bool => [.bool b]) (fun _ _ => True) :=
  ⟨fun h => by obtain ⟨n, e, _⟩ := DataW.trod_bool ht h; exact ⟨n, e, trivial⟩⟩
theorem Reads.string {P : Program} {T : TypeId} (ht : P.underlying T = some .string) : Reads P T (fun s : ByteArray => [.string s]) (fun _ s => s.size ≤ maxLen) :=
  ⟨fun h => by obtain ⟨s, e, _, hw⟩ := DataW.trod_string ht h; exact ⟨s, e, hw⟩⟩
theorem wf64 {n : Int} (h : (Lit.int .i64 n).wf = true) : -9223372036854775808 ≤ n ∧ n ≤ 9223372036854775807 := by
  simp only [Lit.wf, IntKind.min, IntKind.max, IntKind.signed, IntKind.bits, Bool.and_eq_true, decide_eq_true_eq] at h
  simpa using h
theorem wfu32 {n : Int} (h : (Lit.int .u32 n).wf = true) : 0 ≤ n ∧ n ≤ 4294967295 := by
  simp only [Lit.wf, IntKind.min, IntKind.max, IntKind.signed, IntKind.bits, Bool.and_eq_true] at h
  simpa using h
theorem wfu8 {n : Int} (h : (Lit.int .u8 n).wf = true) : 0 ≤ n ∧ n ≤ 255 := by
  simp only [Lit.wf, IntKind.min, IntKind.max, IntKind.signed, IntKind.bits, Bool.and_eq_true] at h
  simpa using h

/-- a slice, and what it reads as -/
structure SlV (α : Type) where
  a : Option Addr
  n : Nat
  c : Nat
  l : List α
structure SlOk {α : Type} [Inhabited α] (R : Rep α) (ok : World → α → Prop) (w : World) (s : SlV α) : Prop where
  sl : R.Sl w s.a s.n s.c s.l
  nil : s.a = none → s.c = 0
  nc : s.n ≤ s.c
  cm : s.c ≤ maxLen
  all : ∀ x ∈ s.l, ok w x
theorem Reads.slice {P : Program} {t : TypeId} {α : Type} [Inhabited α] {R : Rep α} {ok : World → α → Prop} (ht : P.underlying t = some (.slice R.T)) (hk : P.cellsOf R.T = R.k) (h : Reads P R.T R.cells ok) :
    Reads P t (fun s : SlV α => [.slice s.a s.n s.c]) (SlOk R ok) :=
  ⟨fun {H enc w spare held fuel cs x} hx => by
    rcases open_slice ht hx with ⟨rfl, _⟩ | ⟨a, len, cap, m, n, D, Pl, rfl, _, hl, hm, hmm, _, hi⟩
    · exact ⟨⟨none, 0, 0, []⟩, rfl, ⟨⟨rfl, by show 0 ≤ maxLen; omega, fun h0 => absurd h0 (by show ¬ 0 < 0; omega)⟩, fun _ => rfl, Nat.le_refl _, by show 0 ≤ maxLen; omega, fun x hx => by cases hx⟩⟩
    · have hml : len ≤ m := by rw [hmm]; split <;> omega
      have hel : ∀ i, i < len → ∃ y : α, (∀ j, j < R.k → w.cell? (a.add (i * R.k + j)) = (R.cells y)[j]?) ∧ ok w y := by
        intro i hi'
        obtain ⟨cs', hc, ht'⟩ := hi i (by omega)
        rw [hk] at hc
        obtain ⟨y, rfl, hok⟩ := h.read ht'
        obtain ⟨_, _, hat⟩ := World.cells?_some hc
        exact ⟨y, fun j hj => by rw [← add_add]; exact hat j hj, hok⟩
      let f : Nat → α := fun i => if h0 : i < len then (hel i h0).choose else default
      have hf : ∀ i, i < len → (∀ j, j < R.k → w.cell? (a.add (i * R.k + j)) = (R.cells (f i))[j]?) ∧ ok w (f i) := fun i h0 => by
        have := (hel i h0).choose_spec
        simp only [f, h0, dif_pos]; exact this
      refine ⟨⟨some a, len, cap, (List.range len).map f⟩, rfl, ⟨⟨by simp, by show len ≤ maxLen; omega, fun h0 => ?_⟩, fun e => (by cases e), hl, hm, fun x hx => ?_⟩⟩
      · have hpos : 0 < len := h0
        have hk0 := R.pos
        have h00 := (hf 0 hpos).1 0 hk0
        have hsome : ∃ v, (R.cells (f 0))[0]? = some v := ⟨_, List.getElem?_eq_getElem (by rw [R.len]; exact hk0)⟩
        obtain ⟨v, hv⟩ := hsome
        rw [hv, Nat.zero_mul, Nat.add_zero] at h00
        have ha0 : a.add 0 = a := by unfold Addr.add; simp
        rw [ha0] at h00
        have hsp : a.spot = none := by
          unfold World.cell? at h00
          split at h00
          · split at h00
            · cases h00
            · rename_i hs; simpa using hs
          · cases h00
        obtain ⟨b, off, sp⟩ := a
        dsimp only at hsp
        subst hsp
        refine ⟨b, off, rfl, ⟨World.block_lt_of_cell? w _ h00, fun i hi' j hj => ?_⟩⟩
        have hi'' : i < len := by simpa using hi'
        have := (hf i hi'').1 j hj
        have hadd : (⟨b, off, none⟩ : Addr).add (i * R.k + j) = ⟨b, off + i * R.k + j, none⟩ := by
          unfold Addr.add
          split
          · rename_i h0; simp
          · simp [Nat.add_assoc]
        rw [hadd] at this
        rw [this]
        simp [List.getD_eq_getElem?_getD, hi'']
      · obtain ⟨i, hi', rfl⟩ := List.mem_map.1 hx
        exact (hf i (by simpa using hi')).2⟩
/-- the fields of a struct, each by what reads it -/
theorem Reads.fields {P : Program} {T : TypeId} {fs : Array Field} (ht : P.underlying T = some (.struct fs)) {H : Type} {enc : TypeId × Value → H} {w : World} {spare : Nat → Bool} {held : Bool} {fuel : Nat} {cs : List Value} {x : DataW H × List MemPlace}
    (h : DataW.trod enc P w 0 spare held fuel T cs = some x) : cs.length = P.cellsOf T ∧ ∀ (i : Nat) (f : Field), fs[i]? = some f → ∃ (n : Nat) (y : DataW H × List MemPlace), DataW.trod enc P w 0 spare held n f.type ((cs.drop f.offset).take (P.cellsOf f.type)) = some y := by
  obtain ⟨xs, n, _, _, hl, hlen, hx⟩ := DataW.trod_struct ht h
  refine ⟨hl, fun i f hf => ⟨n, ?_⟩⟩
  have hi : i < xs.length := by rw [hlen]; exact (Array.getElem?_eq_some_iff.1 hf).1
  exact ⟨xs[i], by rw [hx i f hf]; simp [hi]⟩
theorem Reads.conv {P : Program} {T : TypeId} {α β : Type} {cells : α → List Value} {ok : World → α → Prop} {cells' : β → List Value} {ok' : World → β → Prop} (h : Reads P T cells ok) (g : ∀ w a, ok w a → ∃ b, cells a = cells' b ∧ ok' w b) : Reads P T cells' ok' :=
  ⟨fun hx => by obtain ⟨a, rfl, hok⟩ := h.read hx; obtain ⟨b, e, hb⟩ := g _ a hok; exact ⟨b, e, hb⟩⟩
/-- an argument of one cell -/
theorem Reads.arg {P : Program} {T : TypeId} {α : Type} {cells : α → List Value} {ok : World → α → Prop} (h : Reads P T cells ok) {H : Type} {enc : TypeId × Value → H} {w : World} {spare : Nat → Bool} {held : Bool} {v : Value} {d : DataW H} {ps : List MemPlace}
    (hd : DataW.Trod enc P w 0 spare held T v d ps) : ∃ a, v.cells.toList = cells a ∧ ok w a := by
  obtain ⟨fuel, hf⟩ := hd
  exact h.read hf
end Go.Proofs.Ytfmehahjjgalfaa
/- MeterOld: the law's walk. -/
namespace Go.Proofs.Ytfmehahjjgalfaa.Me
open Go.RowKit

structure OpM where
  src : Int
  seq : Int
  s : SlV Ct
  now : Int
instance : Inhabited OpM := ⟨⟨0, 0, ⟨none, 0, 0, []⟩, 0⟩⟩
def ROpM : Rep OpM := ⟨89, 4, by decide, fun y => [.int .i64 y.src, .int .i64 y.seq, .slice y.s.a y.s.n y.s.c, .int .i64 y.now], fun _ => rfl, fun _ => rfl⟩
def OpIn (w : World) (y : OpM) : Prop := Cts w y.s.a y.s.n y.s.c y.s.l
structure OpsM (w : World) (oa : Option Addr) (n c : Nat) (l : List OpM) : Prop where
  sl : ROpM.Sl w oa n c l
  ok : ∀ y ∈ l, OpIn w y
theorem OpsM.keep {w w' : World} {oa : Option Addr} {n c : Nat} {l : List OpM} (h : OpsM w oa n c l) (hb : Below w.heap.size w w') : OpsM w' oa n c l := ⟨h.sl.keep hb, fun y hy => (h.ok y hy).keep hb⟩
def OpB (q : Nat) (y : OpM) (w : World) : Prop := w.heap[q]? = some (.cells #[.int .i64 y.src, .int .i64 y.seq, .slice y.s.a y.s.n y.s.c, .int .i64 y.now] 89)
theorem OpB.cells {q : Nat} {y : OpM} {w : World} (h : OpB q y w) : w.cell? ⟨q, 0, none⟩ = some (.int .i64 y.src) ∧ w.cell? ⟨q, 1, none⟩ = some (.int .i64 y.seq) ∧ w.cell? ⟨q, 2, none⟩ = some (.slice y.s.a y.s.n y.s.c) ∧ w.cell? ⟨q, 3, none⟩ = some (.int .i64 y.now) := ⟨cell_of h rfl, cell_of h rfl, cell_of h rfl, cell_of h rfl⟩
theorem OpB.keep {q : Nat} {y : OpM} {w w' : World} (h : OpB q y w) (hb : Below w.heap.size w w') : OpB q y w' := (hb.block _ (lt_of_blk h)).trans h
theorem OpB.but {q m : Nat} {y : OpM} {w w' : World} (h : OpB q y w) (hb : But w w' [m]) (hne : q ≠ m) : OpB q y w' := (hb.block _ (lt_of_blk h) (by simpa using hne)).trans h
def RdO (b o : Nat) (y : OpM) (w : World) : Prop := ROpM.At w b o y
set_option maxRecDepth 100000 in
set_option maxHeartbeats 8000000 in
theorem mold_law {w : World} {oa : Option Addr} {n cn : Nat} {l : List OpM} (hl : OpsM w oa n cn l) {y : OpM} (hy : OpIn w y) : Calls Try.prog 12 #[.slice oa n cn, .agg #[.int .i64 y.src, .int .i64 y.seq, .slice y.s.a y.s.n y.s.c, .int .i64 y.now]] w fun e w' => e = .returned (.bool true) ∧ Below w.heap.size w w' := by
  have hal := (Below.refl w.heap.size w).alloc (Nat.le_refl _) (.cells #[.int .i64 y.src, .int .i64 y.seq, .slice y.s.a y.s.n y.s.c, .int .i64 y.now] 89)
  have hks : OpB w.heap.size y (w.alloc (.cells #[.int .i64 y.src, .int .i64 y.seq, .slice y.s.a y.s.n y.s.c, .int .i64 y.now] 89)) := hnew _ _
  have hmax : n ≤ maxLen := hl.sl.max
  have F := Lib.hid (And.intro hal hks)
  have HL := Lib.hid (And.intro hl hy)
  obtain ⟨z0, z1, z2, z3⟩ := hks.cells
  clear hal hks hl hy
  by_cases hbad : 30 < n ∨ 100 < y.s.n
  · have hways : ((30 : Int) < (n : Int)) = True ∨ (((30 : Int) < (n : Int)) = False ∧ ((100 : Int) < (y.s.n : Int)) = True) := by
      by_cases h : 30 < n
      · exact .inl (by simp; omega)
      · exact .inr ⟨by simp; omega, by simp; omega⟩
    clear hbad
    rcases hways with h1 | ⟨h1, h2⟩
    all_goals
      go_enter Try.func12, Try.ntmps12
      go_wp2_with fail
      obtain ⟨q, hq⟩ : ∃ q, w.heap.size = q := ⟨_, rfl⟩
      obtain ⟨W0, hW0⟩ : ∃ W, w.alloc (.cells #[.int .i64 y.src, .int .i64 y.seq, .slice y.s.a y.s.n y.s.c, .int .i64 y.now] 89) = W := ⟨_, rfl⟩
      have F1 := Lib.hid (show Below w.heap.size w W0 ∧ OpB q y W0 from hq ▸ hW0 ▸ F.out)
      rw [hW0, hq]
      rw [hW0, hq] at z0 z1 z2 z3
      clear hW0 hq F
      refine (mnew_any _).mono ?_
      rintro e W1 ⟨rfl, hT, hb⟩
      have HQM := Lib.hid (And.intro (show q ≠ W0.heap.size from Nat.ne_of_lt (lt_of_blk F1.out.2)) F1.out.1.size)
      have F2 := Lib.hid (And.intro (bcall F1.out.1 (Nat.le_refl _) hb) (And.intro (show MetAt W1 W0.heap.size X0 from hT) (F1.out.2.keep hb)))
      clear hT hb F1 z0 z1 z2 z3
      generalize W0.heap.size = m at *
      go_wp2_with fail
      refine (lives17 _).mono ?_
      rintro e W2 ⟨rfl, hb⟩
      have F3 := Lib.hid (And.intro (bcall F2.out.1 (Nat.le_refl _) hb) (And.intro (F2.out.2.1.keep hb) (F2.out.2.2.keep hb)))
      clear hb F2
      obtain ⟨z0, z1, z2, z3⟩ := F3.out.2.2.cells
      go_wp2_with fail
      refine (lives17 _).mono ?_
      rintro e W3 ⟨rfl, hb⟩
      have F4 := Lib.hid (bcall F3.out.1 (Nat.le_refl _) hb)
      clear hb
      go_wp2_with fail
      go_ret
      exact ⟨rfl, F4.out⟩
  have h1 : ((30 : Int) < (n : Int)) = False := by simp; omega
  have h2 : ((100 : Int) < (y.s.n : Int)) = False := by simp; omega
  clear hbad
  go_enter Try.func12, Try.ntmps12
  go_wp2_with fail
  obtain ⟨q, hq⟩ : ∃ q, w.heap.size = q := ⟨_, rfl⟩
  obtain ⟨W0, hW0⟩ : ∃ W, w.alloc (.cells #[.int .i64 y.src, .int .i64 y.seq, .slice y.s.a y.s.n y.s.c, .int .i64 y.now] 89) = W := ⟨_, rfl⟩
  have F1 := Lib.hid (show Below w.heap.size w W0 ∧ OpB q y W0 from hq ▸ hW0 ▸ F.out)
  rw [hW0, hq]
  rw [hW0, hq] at z0 z1 z2 z3
  clear hW0 hq F
  refine (mnew_any _).mono ?_
  rintro e W1 ⟨rfl, hT, hb⟩
  have HQM := Lib.hid (And.intro (show q ≠ W0.heap.size from Nat.ne_of_lt (lt_of_blk F1.out.2)) F1.out.1.size)
  have F2 := Lib.hid (And.intro (bcall F1.out.1 (Nat.le_refl _) hb) (And.intro (show MetAt W1 W0.heap.size X0 from hT) (F1.out.2.keep hb)))
  clear hT hb F1 z0 z1 z2 z3
  generalize W0.heap.size = m at *
  go_wp2_with fail
  refine (lives17 _).mono ?_
  rintro e W2 ⟨rfl, hb⟩
  have F3 := Lib.hid (And.intro (bcall F2.out.1 (Nat.le_refl _) hb) (And.intro (F2.out.2.1.keep hb) (F2.out.2.2.keep hb)))
  clear hb F2
  obtain ⟨z0, z1, z2, z3⟩ := F3.out.2.2.cells
  go_wp2_with fail
  clear z0 z1 z2 z3 h1 h2
  go_loopw [6] (fun iv wr => ∃ (i : Nat) (X : Nat → Src), i ≤ n ∧ iv = .int .i64 i ∧ MetAt wr m X ∧ OpB q y wr ∧ Below w.heap.size w wr) (fun iv _ => n - (intOf iv).toNat)
  case atStart => exact ⟨0, X0, Nat.zero_le _, rfl, F3.out.2.1, F3.out.2.2, F3.out.1⟩
  case round =>
    obtain ⟨i, X, hi, rfl, hmet, hop, hb⟩ := hrel
    obtain ⟨w2, rfl⟩ : ∃ w2 : World, w2 = wr := ⟨_, rfl⟩
    clear F3
    by_cases hlt : i < n
    · have hil : ((i : Int) < (n : Int)) = True := by simp; omega
      have hi0 : ((0 : Int) ≤ (i : Int)) = True := by simp
      have hw3 := wrapS hlt hmax
      have hgm : l.getD i default ∈ l := getD_mem (by rw [← HL.out.1.sl.len]; exact hlt)
      have hin := HL.out.1.ok _ hgm
      obtain ⟨b, o, hbo, hrow⟩ := HL.out.1.sl.row (by omega)
      subst hbo
      have hat := (hrow.below hb).get i (by rw [← HL.out.1.sl.len]; exact hlt)
      generalize l.getD i default = x at *
      have HX := Lib.hid (And.intro (hin.keep hb) (And.intro hat (And.intro hmet (And.intro hop (And.intro hb hrow.lt)))))
      have y0 := hat 0 (by decide)
      have y1 := hat 1 (by decide)
      have y2 := hat 2 (by decide)
      have y3 := hat 3 (by decide)
      simp only [ROpM, Nat.add_zero, List.getElem?_cons_zero, List.getElem?_cons_succ] at y0 y1 y2 y3
      clear hgm hin hrow hat hmet hop hb
      by_cases h100 : 100 < x.s.n
      · have h1t : ((100 : Int) < (x.s.n : Int)) = True := by simp; omega
        have F4 := Lib.hid HX.out.2.2.2.2.1
        clear h100
        go_wp2_with fail
        go_ret
        exact ⟨rfl, F4.out⟩
      · have h1t : ((100 : Int) < (x.s.n : Int)) = False := by simp; omega
        clear h100
        go_wp2_with fail
        clear y0 y1 y2 y3
        refine wp_region_heldP (RdO b (o + i * 4) x) (by kernel_rfl) ?_
        have hd := (Below.refl w2.heap.size w2).drew
        have hbk : w2.drew.heap[b]? = w2.heap[b]? := rfl
        have HX2 := Lib.hid (And.intro (Cts.keep HX.out.1 hd) (And.intro (show RdO b (o + i * 4) x w2.drew from HX.out.2.1.keep hbk) (And.intro (HX.out.2.2.1.keep hd) (And.intro (HX.out.2.2.2.1.keep hd) (bcall HX.out.2.2.2.2.1 (Nat.le_refl _) hd)))))
        clear hd hbk
        generalize w2.drew = V at *
        refine held_reads [0, 1, 2, 3, 4, 5, 6, 7, 8, 9, 10] (g := 1) rfl (by kernel_rfl) HX2.out.2.1 (fun _ _ d _ _ h => by cases d <;> exact h) ?_
        simp only [pick, List.getD_cons_zero, List.getD_cons_succ]
        ((with_reducible refine wpRead_step (fun K hK => ?_)); go_simp; first | ((with_reducible refine hK _ ?_); clear hK K) | (apply Exists.intro; (with_reducible refine ⟨fun w' hw' => ?_, hK _ ?_⟩); (first | exact rfl | exact ⟨rfl, rfl⟩); clear hK K))
        ((with_reducible refine wpRead_step (fun K hK => ?_)); go_simp; first | ((with_reducible refine hK _ ?_); clear hK K) | (apply Exists.intro; (with_reducible refine ⟨fun w' hw' => ?_, hK _ ?_⟩); (first | exact rfl | exact ⟨rfl, rfl⟩); clear hK K))
        ((with_reducible refine wpRead_step (fun K hK => ?_)); go_simp; first | ((with_reducible refine hK _ ?_); clear hK K) | (apply Exists.intro; (with_reducible refine ⟨fun w' hw' => ?_, hK _ ?_⟩); (first | exact rfl | exact ⟨rfl, rfl⟩); clear hK K))
        ((with_reducible refine wpRead_step (fun K hK => ?_)); go_simp; first | ((with_reducible refine hK _ ?_); clear hK K) | (apply Exists.intro; (with_reducible refine ⟨fun w' hw' => ?_, hK _ ?_⟩); (first | exact rfl | exact ⟨rfl, rfl⟩); clear hK K))
        ((with_reducible refine wpRead_step (fun K hK => ?_)); go_simp; first | ((with_reducible refine hK _ ?_); clear hK K) | (apply Exists.intro; (with_reducible refine ⟨fun w' hw' => ?_, hK _ ?_⟩); (first | exact rfl | exact ⟨rfl, rfl⟩); clear hK K))
        ((with_reducible refine wpRead_step (fun K hK => ?_)); go_simp; first | ((with_reducible refine hK _ ?_); clear hK K) | (apply Exists.intro; (with_reducible refine ⟨fun w' hw' => ?_, hK _ ?_⟩); ((have f0 := hw' 0 (by decide); have f1 := hw' 1 (by decide); have f2 := hw' 2 (by decide); have f3 := hw' 3 (by decide); simp only [ROpM, Nat.add_zero, List.getElem?_cons_zero, List.getElem?_cons_succ] at f0 f1 f2 f3; go_simp; first | exact rfl | exact ⟨rfl, rfl⟩)); clear hK K))
        ((with_reducible refine wpRead_step (fun K hK => ?_)); go_simp; first | ((with_reducible refine hK _ ?_); clear hK K) | (apply Exists.intro; (with_reducible refine ⟨fun w' hw' => ?_, hK _ ?_⟩); (first | exact rfl | exact ⟨rfl, rfl⟩); clear hK K))
        ((with_reducible refine wpRead_step (fun K hK => ?_)); go_simp; first | ((with_reducible refine hK _ ?_); clear hK K) | (apply Exists.intro; (with_reducible refine ⟨fun w' hw' => ?_, hK _ ?_⟩); (first | exact rfl | exact ⟨rfl, rfl⟩); clear hK K))
        ((with_reducible refine wpRead_step (fun K hK => ?_)); go_simp; first | ((with_reducible refine hK _ ?_); clear hK K) | (apply Exists.intro; (with_reducible refine ⟨fun w' hw' => ?_, hK _ ?_⟩); (first | exact rfl | exact ⟨rfl, rfl⟩); clear hK K))
        ((with_reducible refine wpRead_step (fun K hK => ?_)); go_simp; first | ((with_reducible refine hK _ ?_); clear hK K) | (apply Exists.intro; (with_reducible refine ⟨fun w' hw' => ?_, hK _ ?_⟩); (first | exact rfl | exact ⟨rfl, rfl⟩); clear hK K))
        ((with_reducible refine wpRead_step (fun K hK => ?_)); go_simp; first | ((with_reducible refine hK _ ?_); clear hK K) | (apply Exists.intro; (with_reducible refine ⟨fun w' hw' => ?_, hK _ ?_⟩); ((have f0 := hw' 0 (by decide); have f1 := hw' 1 (by decide); have f2 := hw' 2 (by decide); have f3 := hw' 3 (by decide); simp only [ROpM, Nat.add_zero, List.getElem?_cons_zero, List.getElem?_cons_succ] at f0 f1 f2 f3; go_simp; first | exact rfl | exact ⟨rfl, rfl⟩)); clear hK K))
        with_reducible refine wpRead_nil ?_
        have hg := take_any HX2.out.2.2.1 HX2.out.1 x.src x.seq x.now
        have HG := Lib.hid hg
        clear hg
        generalize takeE X x.src x.seq x.s.l x.now = tv at *
        refine held_one 11 (by kernel_rfl) ?_
        simp only [pick, List.getD_cons_zero, List.getD_cons_succ]
        go_wp2_with fail
        refine HG.out.mono ?_
        rintro e V2 ⟨rfl, hs⟩
        have F4 := Lib.hid (show ∃ Y, MetAt V2 m Y ∧ OpB q y V2 ∧ Below w.heap.size w V2 ∧ RdO b (o + i * 4) x V2 from ⟨_, hs.met, HX2.out.2.2.2.1.but hs.but HQM.out.1, Below.step HX2.out.2.2.2.2 HX2.out.2.2.2.2.size hs.but (by simp; exact HQM.out.2), HX2.out.2.1.keep (hs.but.block _ (Nat.lt_of_lt_of_le HX.out.2.2.2.2.2 HX2.out.2.2.2.2.size) (by simp; have := HX.out.2.2.2.2.2; have := HQM.out.2; omega))⟩)
        clear hs HG
        go_wp2_with fail
        obtain ⟨Y, g1, g2, g3, g4⟩ := F4.out
        refine ⟨g4, ?_⟩
        refine wpAnyH_done (by kernel_rfl) ?_ _
        go_wp2_with fail
        exact ⟨⟨i + 1, Y, hlt, by first | rw [hw3] | rw [Int.natCast_succ], g1, g2, g3⟩, by first | (rw [hw3]; exact mSucc hlt) | (rw [← Int.natCast_succ]; exact mSucc hlt)⟩
    · obtain rfl : n = i := by omega
      have hil : ((n : Int) < (n : Int)) = False := by simp
      have G := Lib.hid (And.intro hb (And.intro hmet (And.intro hop (HL.out.2.keep hb))))
      clear hb hmet hop
      go_wp2_with fail
      refine (demands_any G.out.2.1).mono ?_
      rintro e W3 ⟨v, M, rfl, hr⟩
      obtain ⟨ow, cw, rfl, -, -⟩ := hr.own.sl0
      obtain ⟨k1, hk1⟩ : ∃ k1, M.length = k1 := ⟨_, rfl⟩
      have hown := hr.own
      rw [hk1] at hown ⊢
      have F4 := Lib.hid (And.intro (bcall G.out.1 (Nat.le_refl _) hr.bel) (And.intro (G.out.2.1.keep hr.bel) (And.intro (G.out.2.2.1.keep hr.bel) (And.intro (G.out.2.2.2.keep hr.bel) (And.intro hown hr.dem)))))
      have HMB := Lib.hid (show m < w2.heap.size from G.out.2.1.lt)
      clear hr hown hk1 G
      obtain ⟨z0, z1, z2, z3⟩ := F4.out.2.2.1.cells
      go_wp2_with fail
      have hg := stamp_any F4.out.2.1 y.src
      refine hg.mono ?_
      rintro e W5 ⟨rfl, hw5⟩
      subst hw5
      clear hg
      obtain ⟨sv, hsv⟩ : ∃ sv, stampV X y.src = sv := ⟨_, rfl⟩
      obtain ⟨sb, hsb⟩ : ∃ sb, stampB X y.src = sb := ⟨_, rfl⟩
      rw [hsv, hsb]
      have HSV := Lib.hid (And.intro hsv hsb)
      clear hsv hsb
      go_wp2_with fail
      have hg := take_any F4.out.2.1 F4.out.2.2.2.1 y.src y.seq y.now
      by_cases hE : takeE X y.src y.seq y.s.l y.now = 0
      · rw [hE] at hg
        refine hg.mono ?_
        rintro e W6 ⟨rfl, hs⟩
        have F5 := Lib.hid (Below.step F4.out.1 F4.out.1.size hs.but (by simp; exact HQM.out.2))
        clear hg hs hE z0 z1 z2 z3
        go_wp2_with fail
        go_ret
        exact ⟨rfl, F5.out⟩
      · rw [takeX_no hE] at hg
        have hk0 : (takeE X y.src y.seq y.s.l y.now == 0) = false := by simpa using hE
        generalize takeE X y.src y.seq y.s.l y.now = tv at *
        refine hg.mono ?_
        rintro e W6 ⟨rfl, hs⟩
        have F5 := Lib.hid (And.intro (Below.step F4.out.1 F4.out.1.size hs.but (by simp; exact HQM.out.2)) (And.intro hs.met (And.intro (F4.out.2.2.1.but hs.but HQM.out.1) (And.intro (Rep.Own.but F4.out.2.2.2.2.1 hs.but (by simp; exact HMB.out)) F4.out.2.2.2.2.2))))
        clear hg hs hE z0 z1 z2 z3 F4
        obtain ⟨z0, z1, z2, z3⟩ := F5.out.2.2.1.cells
        go_wp2_with fail
        have hg := stamp_any F5.out.2.1 y.src
        rw [HSV.out.1, HSV.out.2] at hg
        refine hg.mono ?_
        rintro e W7 ⟨rfl, hw7⟩
        subst hw7
        clear hg z0 z1 z2 z3
        go_wp2_with fail
        refine (demands_any F5.out.2.1).mono ?_
        rintro e W8 ⟨v2, M2, rfl, hr⟩
        have hown2 := hr.own
        rw [hr.dem.one F5.out.2.2.2.2] at hown2
        obtain ⟨ou, cu, rfl, hsu, -⟩ := hown2.sl0
        have hown := F5.out.2.2.2.1.below hr.bel
        obtain ⟨ow', cw', ee, hsw, -⟩ := hown.sl0
        injection ee with e1 e2 e3
        subst e1 e3
        rw [← e2] at hsu hsw ⊢
        have F6 := Lib.hid (And.intro (bcall F5.out.1 (Nat.le_refl _) hr.bel) (And.intro hsw hsu))
        clear hr hown hown2 hsu hsw e2 F5
        go_wp2_with fail
        refine (same17 F6.out.2.1 F6.out.2.2).mono ?_
        rintro e W9 ⟨rfl, hb⟩
        have F7 := Lib.hid (bcall F6.out.1 (Nat.le_refl _) hb)
        clear hb F6
        have hss : (sv == sv) = true := by simp
        have hbb : (sb == sb) = true := by simp
        go_wp2_with fail
        go_ret
        exact ⟨rfl, F7.out⟩
end Go.Proofs.Ytfmehahjjgalfaa.Me
