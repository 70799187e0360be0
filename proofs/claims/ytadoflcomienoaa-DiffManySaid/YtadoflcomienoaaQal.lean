/- Updates in memory; a piece of bytes; attributes that are too large. -/
import Derived.Test.YtadoflcomienoaaQak
import Derived.Test.YtadoflcomienoaaQad
import Derived.Test.YtadoflcomienoaaQaa
import Derived.Laws.Tables
import Derived.Deep.Quiet
import Derived.Test.YtadoflcomienoaaQac
import Derived.Test.YtadoflcomienoaaQae
import Derived.Maps.AppendAt
namespace Go.Proofs.Ytadoflcomienoaa
open Go.RowKit

def NlOk (_ : World) (n : Nl) : Prop := n.a < 4294967296 ∧ I64 n.id ∧ I64 n.ln
structure UpV where
  g : SlV Nl
  r : SlV Nl
  a : AtV
  soft : Bool
deriving Inhabited
def UpV.up (x : UpV) : Up := ⟨x.g.l, x.r.l, x.a.at, x.soft⟩
def UpV.v (x : UpV) : Value := .agg #[.slice x.g.a x.g.n x.g.c, .slice x.r.a x.r.n x.r.c, .int .i64 x.a.o, .slice x.a.p.a x.a.p.n x.a.p.c, .int .u32 x.a.nx, .int .i64 x.a.md, .int .i64 x.a.pf, .slice x.a.c.a x.a.c.n x.a.c.c, .bool x.soft]
def RUp : Rep UpV := ⟨48, 9, by decide, fun x => [.slice x.g.a x.g.n x.g.c, .slice x.r.a x.r.n x.r.c, .int .i64 x.a.o, .slice x.a.p.a x.a.p.n x.a.p.c, .int .u32 x.a.nx, .int .i64 x.a.md, .int .i64 x.a.pf, .slice x.a.c.a x.a.c.n x.a.c.c, .bool x.soft], fun _ => rfl, fun _ => rfl⟩
structure UpOk (w : World) (x : UpV) : Prop where
  g : SlOk RNl NlOk w x.g
  r : SlOk RNl NlOk w x.r
  a : AtOk w x.a
theorem SlOk.keepN {w w' : World} {s : SlV Nl} (h : SlOk RNl NlOk w s) (hb : Below w.heap.size w w') : SlOk RNl NlOk w' s := h.keep hb fun _ _ h => h
theorem UpOk.keep {w w' : World} {x : UpV} (h : UpOk w x) (hb : Below w.heap.size w w') : UpOk w' x := ⟨h.g.keepN hb, h.r.keepN hb, h.a.keep hb⟩
theorem SlOk.nls {w : World} {s : SlV Nl} (h : SlOk RNl NlOk w s) : Nls w s.a s.n s.c s.l := ⟨h.sl, fun x hx => (h.all x hx).1, h.nil, h.nc, h.cm⟩
set_option maxRecDepth 100000 in
theorem piece_any {w : World} {oa : Option Addr} {n c : Nat} {B : List Nat} (h : RB.Sl w oa n c B) (hnil : oa = none → c = 0) (hn : n ≤ 65535) : Calls Try.prog 65 #[.slice oa n c] w fun e w' => ∃ v L, e = .returned v ∧ RB.Own w' w.heap.size v L ∧ L.length = 2 + n ∧ Below w.heap.size w w' := by
  have HP := Lib.hid (fun W => putk_any 2 (by decide) n (by unfold fitsB; simp; omega) W)
  have F0 := Lib.hid (And.intro h (And.intro hnil h.len.symm))
  clear h hnil
  go_enter Try.func65, Try.ntmps65
  go_wp2_with fail
  refine (HP.out _).mono ?_
  rintro e w4 ⟨v4, B4, rfl, hown4, hl4, hb4⟩
  obtain ⟨oa4, c4, rfl, -, -⟩ := hown4.sl0
  rw [hl4] at hown4 ⊢
  have F1 := Lib.hid (And.intro hb4 (And.intro hown4 (And.intro (F0.out.1.keep hb4) hl4)))
  clear hown4 hb4 hl4 HP
  go_wp2_with (at_builtin; refine halt ?_)
  refine Halted.go ?_
  have hl4 := F1.out.2.2.2
  refine Rep.append_list T27 rfl _ _ rfl rfl F1.out.2.1 (L := B4) (M := B) rfl F1.out.2.2.1 F0.out.2.1 (by rw [hl4]; unfold maxLen; omega) (by rw [hl4]; omega) F1.out.1.size ?_
  intro v5 w5 hown5 hb5 _
  have F2 := Lib.hid (And.intro hown5 (And.intro (show (B4 ++ B).length = 2 + n from by rw [List.length_append, hl4, F0.out.2.2]) (F1.out.1.trans hb5)))
  clear hown5 hb5 F1 hl4
  go_wp2_with fail
  go_ret
  exact ⟨_, _, rfl, F2.out⟩

def largeA (x : At) : Bool := (decide (20 < x.p.length) || decide (100 < x.c.length)) || !(x.p.all fun s => decide (s.2.length ≤ 200))
theorem largeA_at {w : World} {x : AtV} (hx : AtOk w x) : largeA x.at = ((decide (20 < x.p.n) || decide (100 < x.c.n)) || !(x.p.l.all fun s => decide (s.s.l.length ≤ 200))) := by
  unfold largeA AtV.at
  dsimp only
  rw [List.length_map, ← hx.p.sl.len, ← hx.c.sl.len, List.all_map]
  rfl
set_option maxRecDepth 100000 in
set_option maxHeartbeats 2000000 in
theorem large_any {w : World} {x : AtV} (hx : AtOk w x) : Calls Try.prog 5 #[x.v] w fun e w' => e = .returned (.bool (largeA x.at)) ∧ Below w.heap.size w w' := by
  have hb0 := (Below.refl w.heap.size w).alloc (Nat.le_refl _) (.cells #[.int .i64 x.o, .slice x.p.a x.p.n x.p.c, .int .u32 x.nx, .int .i64 x.md, .int .i64 x.pf, .slice x.c.a x.c.n x.c.c] 26)
  have hX : BxA w.heap.size x (w.alloc (.cells #[.int .i64 x.o, .slice x.p.a x.p.n x.p.c, .int .u32 x.nx, .int .i64 x.md, .int .i64 x.pf, .slice x.c.a x.c.n x.c.c] 26)) := hnew _ _
  have HL := Lib.hid hx.p.sl.len
  have hmax := hx.p.sl.max
  obtain ⟨v, hv⟩ : ∃ v, largeA x.at = v := ⟨_, rfl⟩
  rw [hv]
  have HV := Lib.hid (hv.symm.trans (largeA_at hx))
  have F0 := Lib.hid (And.intro hb0 (And.intro hX (hx.keep hb0)))
  obtain ⟨c0, c1, c2, c3, c4, c5⟩ := hX.cells
  clear hv hb0 hX hx
  unfold AtV.v
  obtain ⟨w1, hw1⟩ : ∃ w1, w.alloc (.cells #[.int .i64 x.o, .slice x.p.a x.p.n x.p.c, .int .u32 x.nx, .int .i64 x.md, .int .i64 x.pf, .slice x.c.a x.c.n x.c.c] 26) = w1 := ⟨_, rfl⟩
  rw [hw1] at F0 c0 c1 c2 c3 c4 c5
  by_cases h1 : 20 < x.p.n
  · have e1 : ((20 : Int) < (x.p.n : Int)) = True := by simp; omega
    rw [decide_eq_true h1] at HV
    clear h1
    go_enter Try.func5, Try.ntmps5
    go_wp2_with fail
    go_ret
    exact ⟨ret_bool (by rw [HV.out]; rfl), F0.out.1⟩
  · have e1 : ((20 : Int) < (x.p.n : Int)) = False := by simp; omega
    rw [decide_eq_false h1] at HV
    by_cases h2 : 100 < x.c.n
    · have e2 : ((100 : Int) < (x.c.n : Int)) = True := by simp; omega
      rw [decide_eq_true h2] at HV
      clear h1 h2
      go_enter Try.func5, Try.ntmps5
      go_wp2_with fail
      go_ret
      exact ⟨ret_bool (by rw [HV.out]; rfl), F0.out.1⟩
    · have e2 : ((100 : Int) < (x.c.n : Int)) = False := by simp; omega
      rw [decide_eq_false h2] at HV
      clear h1 h2
      go_enter Try.func5, Try.ntmps5
      go_wp2_with fail
      clear e1 e2 c0 c1 c2 c3 c4 c5
      go_loopw [3] (fun iv wr => ∃ i : Nat, i ≤ x.p.n ∧ iv = .int .i64 i ∧ (x.p.l.take i).all (fun s => decide (s.s.l.length ≤ 200)) = true ∧ Below w1.heap.size w1 wr) (fun iv _ => x.p.n - (intOf iv).toNat)
      case atStart => exact ⟨0, Nat.zero_le _, rfl, rfl, Below.refl _ _⟩
      case round =>
        obtain ⟨i, hi, rfl, hall, hb⟩ := hrel
        obtain ⟨w2, rfl⟩ : ∃ w2 : World, w2 = wr := ⟨_, rfl⟩
        have hx2 := F0.out.2.2.keep hb
        obtain ⟨-, c1, -, -, -, -⟩ := (F0.out.2.1.keep hb).cells
        by_cases hlt : i < x.p.n
        · have hil : ((i : Int) < (x.p.n : Int)) = True := by simp; omega
          have hi0 : ((0 : Int) ≤ (i : Int)) = True := by simp
          have hw3 := wrapS hlt hmax
          obtain ⟨b0, o0, ea, hbb, hat⟩ := hx2.p.sl.at hlt
          have hs0 := hx2.p.all _ (getD_mem (i := i) (by rw [← HL.out]; exact hlt))
          have hmem := getD_mem (M := x.p.l) (i := i) (by rw [← HL.out]; exact hlt)
          have t1 := all_take_s x.p.l (fun s => decide (s.s.l.length ≤ 200)) i (by rw [← HL.out]; exact hlt)
          rw [hall, Bool.true_and] at t1
          obtain ⟨s, hs⟩ : ∃ s, x.p.l.getD i default = s := ⟨_, rfl⟩
          rw [hs] at hat hs0 hmem t1
          have s1 := hat 1 (by decide)
          simp only [RSg, List.getElem?_cons_zero, List.getElem?_cons_succ] at s1
          rw [ea] at c1
          have HT := Lib.hid (And.intro t1 (And.intro hb (And.intro hmem hs0.sl.len)))
          clear hb hat hall hs hs0 hmem hbb hx2 ea t1
          by_cases g : 200 < s.s.n
          · have e3 : ((200 : Int) < (s.s.n : Int)) = True := by simp; omega
            have HG := Lib.hid g
            clear g
            go_wp2_with fail
            go_ret
            have hno : x.p.l.all (fun s => decide (s.s.l.length ≤ 200)) = false := by
              rw [List.all_eq_false]
              exact ⟨s, HT.out.2.2.1, by have h1 := HG.out; have h2 := HT.out.2.2.2; simp; omega⟩
            exact ⟨ret_bool (by rw [HV.out, hno]; rfl), bcall F0.out.1 (by simp) HT.out.2.1⟩
          · have e3 : ((200 : Int) < (s.s.n : Int)) = False := by simp; omega
            have HG := Lib.hid (show (x.p.l.take (i + 1)).all (fun s => decide (s.s.l.length ≤ 200)) = true from by
              rw [HT.out.1]
              have h2 := HT.out.2.2.2
              exact decide_eq_true (by omega))
            clear g
            go_wp2_with fail
            exact ⟨⟨i + 1, hlt, by first | rw [hw3] | rw [Int.natCast_succ], HG.out, HT.out.2.1⟩, by first | (rw [hw3]; exact mSucc hlt) | (rw [← Int.natCast_succ]; exact mSucc hlt)⟩
        · obtain rfl : i = x.p.n := by omega
          have hil : ((x.p.n : Int) < (x.p.n : Int)) = False := by simp
          have HA := Lib.hid (And.intro (show x.p.l.all (fun s => decide (s.s.l.length ≤ 200)) = true from by
            have := hall
            rwa [HL.out, List.take_length] at this) hb)
          clear hall hb hx2
          go_wp2_with fail
          go_ret
          exact ⟨ret_bool (by rw [HV.out, HA.out.1]; rfl), bcall F0.out.1 (by simp) HA.out.2⟩
end Go.Proofs.Ytadoflcomienoaa
/- The bytes of prefixes, and of attributes, as an update has them. -/
namespace Go.Proofs.Ytadoflcomienoaa
open Go.RowKit

def BxU (q : Nat) (x : UpV) (W : World) : Prop := W.heap[q]? = some (.cells #[.slice x.g.a x.g.n x.g.c, .slice x.r.a x.r.n x.r.c, .int .i64 x.a.o, .slice x.a.p.a x.a.p.n x.a.p.c, .int .u32 x.a.nx, .int .i64 x.a.md, .int .i64 x.a.pf, .slice x.a.c.a x.a.c.n x.a.c.c, .bool x.soft] 48)
theorem BxU.keep {q : Nat} {x : UpV} {W W' : World} (h : BxU q x W) (hb : Below W.heap.size W W') : BxU q x W' := (hb.block _ (lt_of_blk h)).trans h
theorem BxU.cells {q : Nat} {x : UpV} {W : World} (h : BxU q x W) : W.cell? ⟨q, 0, none⟩ = some (.slice x.g.a x.g.n x.g.c) ∧ W.cell? ⟨q, 1, none⟩ = some (.slice x.r.a x.r.n x.r.c) ∧ W.cell? ⟨q, 2, none⟩ = some (.int .i64 x.a.o) ∧ W.cell? ⟨q, 3, none⟩ = some (.slice x.a.p.a x.a.p.n x.a.p.c) ∧ W.cell? ⟨q, 4, none⟩ = some (.int .u32 x.a.nx) ∧ W.cell? ⟨q, 5, none⟩ = some (.int .i64 x.a.md) ∧ W.cell? ⟨q, 6, none⟩ = some (.int .i64 x.a.pf) ∧ W.cell? ⟨q, 7, none⟩ = some (.slice x.a.c.a x.a.c.n x.a.c.c) ∧ W.cell? ⟨q, 8, none⟩ = some (.bool x.soft) := ⟨cell_of h rfl, cell_of h rfl, cell_of h rfl, cell_of h rfl, cell_of h rfl, cell_of h rfl, cell_of h rfl, cell_of h rfl, cell_of h rfl⟩
theorem errI_zero (b : Bool) {n : Int} (h : n ≠ 0) : (errI b n == 0) = b := by
  cases b
  · simpa [errI] using h
  · rfl
theorem nput_u {w : World} {s : SlV Nl} (h : SlOk RNl NlOk w s) (paths : Bool) : Calls Try.prog 85 #[.slice s.a s.n s.c, .bool paths] w fun e w' => (∃ v B, e = .returned (.tuple #[v, .int .i64 (errI (okL paths s.l) 60)]) ∧ RB.Own w' w.heap.size v B ∧ (okL paths s.l = true → B = nbs paths s.l)) ∧ Below w.heap.size w w' := by
  cases hok : okL paths s.l with
  | true => exact (nput_any h.nls paths hok).mono fun e w' ⟨v, h1, h2, h3⟩ => ⟨⟨v, _, h1, h2, fun _ => rfl⟩, h3⟩
  | false => exact (nput_bad h.nls paths hok).mono fun e w' ⟨h1, h2⟩ => ⟨⟨_, [], h1, Rep.Own.nil _ _, fun h => by cases h⟩, h2⟩
def atZV : AtV := ⟨0, ⟨none, 0, 0, []⟩, 0, 0, 0, ⟨none, 0, 0, []⟩⟩
theorem slZ {α : Type} [Inhabited α] {R : Rep α} {ok : World → α → Prop} {w : World} : SlOk R ok w ⟨none, 0, 0, []⟩ := ⟨⟨rfl, by show 0 ≤ maxLen; omega, fun h => absurd h (Nat.lt_irrefl 0)⟩, fun _ => rfl, Nat.le_refl _, by show 0 ≤ maxLen; omega, fun x hx => by cases hx⟩
theorem atZ_ok (w : World) : AtOk w atZV := ⟨slZ, slZ, by unfold I64; decide, by decide, by unfold I64; decide, by unfold I64; decide⟩
/-- may the attributes of an update be -/
def okAt (four : Bool) (u : Up) : Bool := if u.routes.length = 0 then decide (u.a = atZ) else okA four u.a
def aszU (four : Bool) (u : Up) : Nat := if u.routes.length = 0 then 0 else asz four u.a
set_option maxRecDepth 100000 in
theorem attrs_any {w : World} {x : UpV} (hx : UpOk w x) (four : Bool) : Calls Try.prog 86 #[x.v, .bool four] w fun e w' => (∃ v B, e = .returned (.tuple #[v, .bool (okAt four x.up)]) ∧ RB.Own w' w.heap.size v B ∧ (okAt four x.up = true → B.length = aszU four x.up)) ∧ Below w.heap.size w w' := by
  have hal := (Below.refl w.heap.size w).alloc (Nat.le_refl _) (.cells #[.slice x.g.a x.g.n x.g.c, .slice x.r.a x.r.n x.r.c, .int .i64 x.a.o, .slice x.a.p.a x.a.p.n x.a.p.c, .int .u32 x.a.nx, .int .i64 x.a.md, .int .i64 x.a.pf, .slice x.a.c.a x.a.c.n x.a.c.c, .bool x.soft] 48)
  have hX : BxU w.heap.size x (w.alloc (.cells #[.slice x.g.a x.g.n x.g.c, .slice x.r.a x.r.n x.r.c, .int .i64 x.a.o, .slice x.a.p.a x.a.p.n x.a.p.c, .int .u32 x.a.nx, .int .i64 x.a.md, .int .i64 x.a.pf, .slice x.a.c.a x.a.c.n x.a.c.c, .bool x.soft] 48)) := hnew _ _
  have hx' := hx.keep hal
  have hlen := hx.r.sl.len
  obtain ⟨c0, c1, c2, c3, c4, c5, c6, c7, c8⟩ := hX.cells
  have F0 := Lib.hid hal
  unfold UpV.v
  by_cases h0 : x.r.n = 0
  · have e1 : ((x.r.n : Int) == 0) = true := by simp [h0]
    have hz : x.up.routes.length = 0 := by show x.r.l.length = 0; omega
    have HO := Lib.hid (show okAt four x.up = decide (x.a.at = atZ) from if_pos hz)
    have HZ := Lib.hid (show aszU four x.up = 0 from if_pos hz)
    have HS := Lib.hid (asame_any hx'.a (atZ_ok (w.alloc (.cells #[.slice x.g.a x.g.n x.g.c, .slice x.r.a x.r.n x.r.c, .int .i64 x.a.o, .slice x.a.p.a x.a.p.n x.a.p.c, .int .u32 x.a.nx, .int .i64 x.a.md, .int .i64 x.a.pf, .slice x.a.c.a x.a.c.n x.a.c.c, .bool x.soft] 48))))
    rw [show atZV.at = atZ from rfl] at HS
    generalize okAt four x.up = v at *
    generalize aszU four x.up = z at *
    unfold AtV.v atZV at HS
    generalize decide (x.a.at = atZ) = d at *
    dsimp only at HS
    clear hal hX hx hx' h0 hz hlen
    go_enter Try.func86, Try.ntmps86
    go_wp2_with fail
    refine (HS.out).mono ?_
    rintro e w1 ⟨rfl, hb⟩
    have F1 := Lib.hid (bcall F0.out (by simp) hb)
    clear hb c0 c1 c2 c3 c4 c5 c6 c7 c8 F0
    go_wp2_with fail
    go_ret2
    exact ⟨⟨.slice none 0 0, [], by rw [HO.out]; rfl, Rep.Own.nil _ _, fun _ => HZ.out.symm⟩, F1.out⟩
  · have e1 : ((x.r.n : Int) == 0) = false := by simpa using h0
    have hz : ¬ x.up.routes.length = 0 := by show ¬ x.r.l.length = 0; omega
    have HO := Lib.hid (show okAt four x.up = okA four x.a.at from if_neg hz)
    have HZ := Lib.hid (show aszU four x.up = asz four x.a.at from if_neg hz)
    generalize okAt four x.up = v at *
    generalize aszU four x.up = z at *
    cases hok : okA four x.a.at with
    | true =>
      have HS := Lib.hid (aput_len hx'.a hok)
      rw [hok] at HO
      unfold AtV.v at HS
      clear hal hX hx hx' h0 hz hlen hok
      go_enter Try.func86, Try.ntmps86
      go_wp2_with fail
      refine (HS.out).mono ?_
      rintro e w1 ⟨v1, B, rfl, ho, hl, hb⟩
      have F1 := Lib.hid (And.intro (bcall F0.out (by simp) hb) (And.intro (ho.mono (show w.heap.size ≤ _ by simp)) hl))
      obtain ⟨o1, k1, rfl, -, -⟩ := ho.sl0
      have HB := Lib.hid hl
      clear hb ho hl c0 c1 c2 c3 c4 c5 c6 c7 c8 F0
      go_wp2_with fail
      go_ret2
      exact ⟨⟨_, B, by rw [HO.out]; rfl, F1.out.2.1, fun _ => by rw [HZ.out]; exact HB.out⟩, F1.out.1⟩
    | false =>
      have HS := Lib.hid (aput_no hx'.a hok)
      rw [hok] at HO
      unfold AtV.v at HS
      clear hal hX hx hx' h0 hz hlen hok
      go_enter Try.func86, Try.ntmps86
      go_wp2_with fail
      refine (HS.out).mono ?_
      rintro e w1 ⟨rfl, hb⟩
      have F1 := Lib.hid (bcall F0.out (by simp) hb)
      clear hb c0 c1 c2 c3 c4 c5 c6 c7 c8 F0
      go_wp2_with fail
      go_ret2
      exact ⟨⟨_, [], by rw [HO.out]; rfl, Rep.Own.nil _ _, fun h => by rw [HO.out] at h; cases h⟩, F1.out⟩
end Go.Proofs.Ytadoflcomienoaa
/- Which updates may be put. -/
namespace Go.Proofs.Ytadoflcomienoaa
open Go.RowKit

/-- how many bytes an update's body has -/
def lenU (four : Bool) (u : Up) : Nat := 4 + (nbs false u.gone).length + aszU four u + (nbs false u.routes).length
def chkU (four : Bool) (u : Up) : Bool := ((!u.soft && okL false u.gone) && (okL false u.routes && okAt four u)) && decide (lenU four u ≤ 4077)
theorem nbs_ok {paths : Bool} {L : List Nl} (h : okL paths L = true) : (nbs paths L).length ≤ 9216 := by
  have h1 := okL_iff.1 h
  have := nbs_len h1.2
  omega
theorem aszU_le {four : Bool} {u : Up} (h : okAt four u = true) : aszU four u ≤ 2230 := by
  unfold okAt at h
  unfold aszU
  split
  · omega
  · rename_i h0
    rw [if_neg h0] at h
    exact asz_le h
set_option maxRecDepth 100000 in
set_option maxHeartbeats 4000000 in
theorem ubody_any {w : World} {x : UpV} (hx : UpOk w x) (four : Bool) : Calls Try.prog 63 #[x.v, .bool four, .bool false] w fun e w' => (∃ v, e = .returned (.tuple #[v, .bool (chkU four x.up)])) ∧ Below w.heap.size w w' := by
  have hal := (Below.refl w.heap.size w).alloc (Nat.le_refl _) (.cells #[.slice x.g.a x.g.n x.g.c, .slice x.r.a x.r.n x.r.c, .int .i64 x.a.o, .slice x.a.p.a x.a.p.n x.a.p.c, .int .u32 x.a.nx, .int .i64 x.a.md, .int .i64 x.a.pf, .slice x.a.c.a x.a.c.n x.a.c.c, .bool x.soft] 48)
  have hX : BxU w.heap.size x (w.alloc (.cells #[.slice x.g.a x.g.n x.g.c, .slice x.r.a x.r.n x.r.c, .int .i64 x.a.o, .slice x.a.p.a x.a.p.n x.a.p.c, .int .u32 x.a.nx, .int .i64 x.a.md, .int .i64 x.a.pf, .slice x.a.c.a x.a.c.n x.a.c.c, .bool x.soft] 48)) := hnew _ _
  obtain ⟨og, hog⟩ : ∃ b, okL false x.g.l = b := ⟨_, rfl⟩
  obtain ⟨orr, hor⟩ : ∃ b, okL false x.r.l = b := ⟨_, rfl⟩
  obtain ⟨oa, hoa⟩ : ∃ b, okAt four x.up = b := ⟨_, rfl⟩
  obtain ⟨sf, hsf⟩ : ∃ b, x.soft = b := ⟨_, rfl⟩
  obtain ⟨v, hv⟩ : ∃ b, chkU four x.up = b := ⟨_, rfl⟩
  have HV := Lib.hid (show v = (((!sf && og) && (orr && oa)) && decide (lenU four x.up ≤ 4077)) from by
    rw [← hv, ← hog, ← hor, ← hoa, ← hsf]; rfl)
  have H1 := Lib.hid (fun W (h : UpOk W x) => nput_u h.g false)
  have H2 := Lib.hid (fun W (h : UpOk W x) => nput_u h.r false)
  have H3 := Lib.hid (fun W (h : UpOk W x) => attrs_any h four)
  rw [hog] at H1
  rw [hor] at H2
  rw [hoa] at H3
  rw [hv]
  obtain ⟨ev1, hev1⟩ : ∃ z, errI og 60 = z := ⟨_, rfl⟩
  obtain ⟨ev2, hev2⟩ : ∃ z, errI orr 60 = z := ⟨_, rfl⟩
  rw [hev1] at H1
  rw [hev2] at H2
  have q1 : (ev1 == 0) = og := by rw [← hev1]; exact errI_zero og (by decide)
  have q2 : (ev2 == 0) = orr := by rw [← hev2]; exact errI_zero orr (by decide)
  have n1 : (ev1 != 0) = !og := by rw [bne, q1]
  have n2 : (ev2 != 0) = !orr := by rw [bne, q2]
  have HN := Lib.hid (And.intro (fun h : og = true => nbs_ok (hog.trans h)) (And.intro (fun h : orr = true => nbs_ok (hor.trans h)) (fun h : oa = true => aszU_le (hoa.trans h))))
  have F0 := Lib.hid (And.intro hal (And.intro hX (hx.keep hal)))
  obtain ⟨c0, c1, c2, c3, c4, c5, c6, c7, c8⟩ := hX.cells
  have HSF := Lib.hid hsf
  clear hal hX hx hog hor hoa hv hev1 hev2 hsf q1 q2
  unfold UpV.v
  go_enter Try.func63, Try.ntmps63
  go_wp2_with fail
  refine (H1.out _ F0.out.2.2).mono ?_
  rintro e A1 ⟨⟨vg, Bg, rfl, ho, hl⟩, hb⟩
  obtain ⟨ogz, kg, rfl, hs, hn⟩ := ho.sl0
  obtain ⟨lg, hln⟩ : ∃ z, Bg.length = z := ⟨_, rfl⟩
  rw [hln] at hs ⊢
  have F1 := Lib.hid (And.intro (bcall F0.out.1 (Nat.le_refl _) hb) (And.intro (F0.out.2.1.keep hb) (And.intro (F0.out.2.2.keep hb) (And.intro hs (And.intro hn ((And.intro hln hl)))))))
  clear F0
  clear hb ho hl hs hn hln c0 c1 c2 c3 c4 c5 c6 c7 c8
  obtain ⟨c0, c1, c2, c3, c4, c5, c6, c7, c8⟩ := F1.out.2.1.cells
  go_wp2_with fail
  refine (H2.out _ F1.out.2.2.1).mono ?_
  rintro e A2 ⟨⟨vr, Br, rfl, ho, hl⟩, hb⟩
  obtain ⟨orz, kr, rfl, hs, hn⟩ := ho.sl0
  obtain ⟨lr, hln⟩ : ∃ z, Br.length = z := ⟨_, rfl⟩
  rw [hln] at hs ⊢
  have F2 := Lib.hid (And.intro (bcall F1.out.1 (Nat.le_refl _) hb) (And.intro (F1.out.2.1.keep hb) (And.intro (F1.out.2.2.1.keep hb) (And.intro (F1.out.2.2.2.1.keep hb) (And.intro F1.out.2.2.2.2.1 (And.intro F1.out.2.2.2.2.2 (And.intro hs (And.intro hn ((And.intro hln hl))))))))))
  clear F1
  clear hb ho hl hs hn hln c0 c1 c2 c3 c4 c5 c6 c7 c8
  obtain ⟨c0, c1, c2, c3, c4, c5, c6, c7, c8⟩ := F2.out.2.1.cells
  go_wp2_with fail
  refine (H3.out _ F2.out.2.2.1).mono ?_
  rintro e A3 ⟨⟨va, Ba, rfl, ho, hl⟩, hb⟩
  obtain ⟨oaz, ka, rfl, hs, hn⟩ := ho.sl0
  obtain ⟨la, hln⟩ : ∃ z, Ba.length = z := ⟨_, rfl⟩
  rw [hln] at hs ⊢
  have F3 := Lib.hid (And.intro (bcall F2.out.1 (Nat.le_refl _) hb) (And.intro (F2.out.2.1.keep hb) (And.intro (F2.out.2.2.1.keep hb) (And.intro (F2.out.2.2.2.1.keep hb) (And.intro F2.out.2.2.2.2.1 (And.intro F2.out.2.2.2.2.2.1 (And.intro (F2.out.2.2.2.2.2.2.1.keep hb) (And.intro F2.out.2.2.2.2.2.2.2.1 (And.intro F2.out.2.2.2.2.2.2.2.2 (And.intro hs (And.intro hn ((And.intro hln hl)))))))))))))
  clear F2
  clear hb ho hl hs hn hln c0 c1 c2 c3 c4 c5 c6 c7 c8
  obtain ⟨c0, c1, c2, c3, c4, c5, c6, c7, c8⟩ := F3.out.2.1.cells
  rw [HSF.out] at c8
  have hcase : sf = true ∨ (sf = false ∧ og = false) ∨ (sf = false ∧ og = true ∧ orr = false) ∨ (sf = false ∧ og = true ∧ orr = true ∧ oa = false) ∨ (sf = false ∧ og = true ∧ orr = true ∧ oa = true) := by
    cases sf <;> cases og <;> cases orr <;> cases oa <;> simp
  rcases hcase with rfl | ⟨rfl, rfl⟩ | ⟨rfl, rfl, rfl⟩ | ⟨rfl, rfl, rfl, rfl⟩ | ⟨rfl, rfl, rfl, rfl⟩
  all_goals
    (try simp only [Bool.not_true, Bool.not_false] at n1)
    (try simp only [Bool.not_true, Bool.not_false] at n2)
  rotate_right 1
  · have hlg : lg = (nbs false x.up.gone).length := by rw [← F3.out.2.2.2.2.2.1.1, F3.out.2.2.2.2.2.1.2 rfl]; rfl
    have hlr : lr = (nbs false x.up.routes).length := by rw [← F3.out.2.2.2.2.2.2.2.2.1.1, F3.out.2.2.2.2.2.2.2.2.1.2 rfl]; rfl
    have hla : la = aszU four x.up := by rw [← F3.out.2.2.2.2.2.2.2.2.2.2.2.1, F3.out.2.2.2.2.2.2.2.2.2.2.2.2 rfl]
    have hbg : lg ≤ 9216 := by rw [hlg]; exact HN.out.1 rfl
    have hbr : lr ≤ 9216 := by rw [hlr]; exact HN.out.2.1 rfl
    have hba : la ≤ 2230 := by rw [hla]; exact HN.out.2.2 rfl
    have HLen := Lib.hid (show lenU four x.up = (2 + lg) + ((2 + la) + lr) from by unfold lenU; rw [hlg, hlr, hla]; omega)
    clear hlg hlr hla
    go_wp2_with fail
    refine (piece_any F3.out.2.2.2.1 F3.out.2.2.2.2.1 (by omega)).mono ?_
    rintro e P4 ⟨vp, Lx, rfl, ho, hl, hb⟩
    obtain ⟨px, jx, rfl, hs, hn⟩ := ho.sl0
    rw [hl] at hs ⊢
    have F4 := Lib.hid (And.intro (bcall F3.out.1 (Nat.le_refl _) hb) (And.intro (F3.out.2.1.keep hb) (And.intro (F3.out.2.2.1.keep hb) (And.intro (F3.out.2.2.2.2.2.2.1.keep hb) (And.intro F3.out.2.2.2.2.2.2.2.1 (And.intro F3.out.2.2.2.2.2.2.2.2.1 (And.intro (F3.out.2.2.2.2.2.2.2.2.2.1.keep hb) (And.intro F3.out.2.2.2.2.2.2.2.2.2.2.1 (And.intro F3.out.2.2.2.2.2.2.2.2.2.2.2 (And.intro hs (And.intro hn (hl))))))))))))
    clear F3
    clear hb ho hl hs hn
    go_wp2_with fail
    refine (piece_any F4.out.2.2.2.2.2.2.1 F4.out.2.2.2.2.2.2.2.1 (by omega)).mono ?_
    rintro e P5 ⟨vp, Ly, rfl, ho, hl, hb⟩
    obtain ⟨py, jy, rfl, hs, hn⟩ := ho.sl0
    rw [hl] at hs ⊢
    have F5 := Lib.hid (And.intro (bcall F4.out.1 (Nat.le_refl _) hb) (And.intro (F4.out.2.1.keep hb) (And.intro (F4.out.2.2.1.keep hb) (And.intro (F4.out.2.2.2.1.keep hb) (And.intro F4.out.2.2.2.2.1 (And.intro F4.out.2.2.2.2.2.1 (And.intro (F4.out.2.2.2.2.2.2.2.2.2.1.keep hb) (And.intro F4.out.2.2.2.2.2.2.2.2.2.2.1 (And.intro F4.out.2.2.2.2.2.2.2.2.2.2.2 (And.intro hs (And.intro hn (hl))))))))))))
    clear F4
    clear hb ho hl hs hn
    clear c0 c1 c2 c3 c4 c5 c6 c7 c8
    go_wp2_with fail
    have hal := (Below.refl P5.heap.size P5).alloc (Nat.le_refl _) (.cells #[.slice px (2 + lg) jx, .slice py (2 + la) jy, .slice orz lr kr] 40)
    have hvs : RH.Sl (P5.alloc (.cells #[.slice px (2 + lg) jx, .slice py (2 + la) jy, .slice orz lr kr] 40)) (some ⟨P5.heap.size, 0, none⟩) 3 3 [(px, 2 + lg, jx), (py, 2 + la, jy), (orz, lr, kr)] := Rep.sl_flat (R := RH) (M := [(px, 2 + lg, jx), (py, 2 + la, jy), (orz, lr, kr)]) (hnew _ _) (by unfold maxLen; simp)
    have hbs : BSS (P5.alloc (.cells #[.slice px (2 + lg) jx, .slice py (2 + la) jy, .slice orz lr kr] 40)) [(px, 2 + lg, jx), (py, 2 + la, jy), (orz, lr, kr)] [Lx, Ly, Br] := BSS.cons (F5.out.2.2.2.2.2.2.1.keep hal) F5.out.2.2.2.2.2.2.2.1 (BSS.cons (F5.out.2.2.2.2.2.2.2.2.2.1.keep hal) F5.out.2.2.2.2.2.2.2.2.2.2.1 (BSS.cons (F5.out.2.2.2.1.keep hal) F5.out.2.2.2.2.1 BSS.nil))
    have hlq : lsum [Lx, Ly, Br] = (2 + lg) + ((2 + la) + lr) := by
      have h1 := F5.out.2.2.2.2.2.2.2.2.1
      have h2 := F5.out.2.2.2.2.2.2.2.2.2.2.2
      have h3 := F5.out.2.2.2.2.2.1.1
      unfold lsum
      simp only [List.flatten_cons, List.flatten_nil, List.length_append, List.length_nil]
      omega
    have HB := Lib.hid (bcall F5.out.1 (Nat.le_refl _) hal)
    refine (concat_any hvs hbs (by decide) (by rw [hlq]; omega)).mono ?_
    rintro e W9 ⟨v9, rfl, ho9, hb9⟩
    obtain ⟨o9, k9, rfl, -, -⟩ := ho9.sl0
    rw [show [Lx, Ly, Br].flatten.length = lenU four x.up from by rw [HLen.out]; exact hlq]
    have HE := Lib.hid (bcall HB.out (Nat.le_refl _) hb9)
    clear hal hvs hbs hlq hb9 ho9
    generalize lenU four x.up = lu at *
    by_cases hlu : lu ≤ 4077
    · have e9 : ((lu : Int) ≤ 4077) = True := by simp; omega
      rw [decide_eq_true hlu] at HV
      clear hlu
      go_wp2_with fail
      go_ret2
      exact ⟨⟨_, by rw [HV.out]; rfl⟩, HE.out⟩
    · have e9 : ((lu : Int) ≤ 4077) = False := by simp; omega
      rw [decide_eq_false hlu] at HV
      clear hlu
      go_wp2_with fail
      go_ret2
      exact ⟨⟨_, by rw [HV.out]; rfl⟩, HE.out⟩
  all_goals
    go_wp2_with fail
    go_ret2
    exact ⟨⟨_, by rw [HV.out]; rfl⟩, F3.out.1⟩
end Go.Proofs.Ytadoflcomienoaa
/- Which updates may be put; how many prefixes fit. -/
namespace Go.Proofs.Ytadoflcomienoaa
open Go.RowKit

set_option maxRecDepth 100000 in
theorem ucheck_any {w : World} {x : UpV} (hx : UpOk w x) (four : Bool) : Calls Try.prog 43 #[x.v, .bool four, .bool false] w fun e w' => e = .returned (.int .i64 (errI (chkU four x.up) 70)) ∧ Below w.heap.size w w' := by
  have hal := (Below.refl w.heap.size w).alloc (Nat.le_refl _) (.cells #[.slice x.g.a x.g.n x.g.c, .slice x.r.a x.r.n x.r.c, .int .i64 x.a.o, .slice x.a.p.a x.a.p.n x.a.p.c, .int .u32 x.a.nx, .int .i64 x.a.md, .int .i64 x.a.pf, .slice x.a.c.a x.a.c.n x.a.c.c, .bool x.soft] 48)
  have hX : BxU w.heap.size x (w.alloc (.cells #[.slice x.g.a x.g.n x.g.c, .slice x.r.a x.r.n x.r.c, .int .i64 x.a.o, .slice x.a.p.a x.a.p.n x.a.p.c, .int .u32 x.a.nx, .int .i64 x.a.md, .int .i64 x.a.pf, .slice x.a.c.a x.a.c.n x.a.c.c, .bool x.soft] 48)) := hnew _ _
  have HB := Lib.hid (ubody_any (hx.keep hal) four)
  have F0 := Lib.hid hal
  obtain ⟨c0, c1, c2, c3, c4, c5, c6, c7, c8⟩ := hX.cells
  generalize chkU four x.up = v at *
  unfold UpV.v at *
  clear hal hX hx
  go_enter Try.func43, Try.ntmps43
  go_wp2_with fail
  refine (HB.out).mono ?_
  rintro e w1 ⟨⟨v1, rfl⟩, hb⟩
  have F1 := Lib.hid (bcall F0.out (by simp) hb)
  clear hb c0 c1 c2 c3 c4 c5 c6 c7 c8 F0
  cases v
  all_goals
    go_wp2_with fail
    go_ret
    exact ⟨rfl, F1.out⟩
def szN (n : Nl) : Nat := (nb false n).length
theorem szN_pos (n : Nl) : 0 < szN n := by
  unfold szN nb pb
  simp
theorem szs_take {sz : Nl → Nat} {L : List Nl} {i : Nat} (h : i < L.length) : szs sz (L.take (i + 1)) = szs sz (L.take i) + sz (L.getD i default) := by
  unfold szs
  rw [take_snoc L i h]
  simp
def FitR (R0 : Nat) (L : List Nl) (i room : Nat) : Prop := i ≤ 1024 ∧ szs szN (L.take i) ≤ R0 ∧ room = R0 - szs szN (L.take i)
set_option maxRecDepth 100000 in
set_option maxHeartbeats 4000000 in
theorem ufit_any {w : World} {sa : Option Addr} {sn sc : Nat} {sl : List Nl} {x : AtV} {four : Bool} (h : SlOk RNl NlOk w ⟨sa, sn, sc, sl⟩) (hL : ∀ n ∈ sl, okN false n = true) (hx : AtOk w x) (hok : okA four x.at = true) : Calls Try.prog 45 #[.slice sa sn sc, x.v, .bool four, .bool false] w fun e w' => e = .returned (.int .i64 (fitI szN (4073 - asz four x.at) 1024 sl : Nat)) ∧ Below w.heap.size w w' := by
  have hal := (Below.refl w.heap.size w).alloc (Nat.le_refl _) (.cells #[.int .i64 x.o, .slice x.p.a x.p.n x.p.c, .int .u32 x.nx, .int .i64 x.md, .int .i64 x.pf, .slice x.c.a x.c.n x.c.c] 26)
  have hX : BxA w.heap.size x (w.alloc (.cells #[.int .i64 x.o, .slice x.p.a x.p.n x.p.c, .int .u32 x.nx, .int .i64 x.md, .int .i64 x.pf, .slice x.c.a x.c.n x.c.c] 26)) := hnew _ _
  have HP := Lib.hid (aput_len (hx.keep hal) hok)
  have hz := asz_le hok
  have HL := Lib.hid (show sn = sl.length from h.sl.len)
  have hmax : sn ≤ maxLen := h.sl.max
  have F0 := Lib.hid hal
  have HS := Lib.hid (And.intro h hL)
  obtain ⟨c0, c1, c2, c3, c4, c5⟩ := hX.cells
  obtain ⟨az, haz⟩ : ∃ z, asz four x.at = z := ⟨_, rfl⟩
  rw [haz] at HP hz ⊢
  obtain ⟨fv, hfv⟩ : ∃ z, fitI szN (4073 - az) 1024 sl = z := ⟨_, rfl⟩
  rw [hfv]
  have HF := Lib.hid hfv
  unfold AtV.v at *
  clear hal hX hx hok haz hfv h hL
  go_enter Try.func45, Try.ntmps45
  go_wp2_with fail
  refine (HP.out).mono ?_
  rintro e w1 ⟨v1, B1, rfl, ho, hl, hb⟩
  obtain ⟨o1, k1, rfl, hs1, hn1⟩ := ho.sl0
  rw [hl] at hs1 ⊢
  have F1 := Lib.hid (And.intro (bcall F0.out (by simp) hb) (And.intro hs1 hn1))
  clear hb ho hl hs1 hn1 c0 c1 c2 c3 c4 c5 F0 HP
  go_wp2_with fail
  refine (piece_any (B := []) (w := w1) (oa := none) (n := 0) (c := 0) Rep.sl_nil (fun _ => rfl) (by decide)).mono ?_
  rintro e w2 ⟨v2, B2, rfl, ho, hl, hb⟩
  obtain ⟨o2, k2, rfl, -, -⟩ := ho.sl0
  rw [hl]
  have F2 := Lib.hid (And.intro (bcall F1.out.1 (Nat.le_refl _) hb) (And.intro (F1.out.2.1.keep hb) F1.out.2.2))
  clear hb ho hl F1
  go_wp2_with fail
  refine (piece_any F2.out.2.1 F2.out.2.2 (by omega)).mono ?_
  rintro e w3 ⟨v3, B3, rfl, ho, hl, hb⟩
  obtain ⟨o3, k3, rfl, -, -⟩ := ho.sl0
  rw [hl]
  have F3 := Lib.hid (bcall F2.out.1 (Nat.le_refl _) hb)
  clear hb ho hl F2
  go_wp2_with fail
  go_loopw [11, 32] (fun rv iv wr => ∃ (i room : Nat), i ≤ sn ∧ iv = .int .i64 i ∧ rv = .int .i64 room ∧ FitR (4073 - az) sl i room ∧ Below w.heap.size w wr) (fun _ iv _ => sn - (intOf iv).toNat)
  case atStart => exact ⟨0, 4073 - az, Nat.zero_le _, rfl, by simp; omega, ⟨Nat.zero_le _, by simp [szs], by simp [szs]⟩, F3.out⟩
  case round =>
    obtain ⟨i, room, hi, rfl, rfl, hr, hb⟩ := hrel
    obtain ⟨w4, rfl⟩ : ∃ w4 : World, w4 = wr := ⟨_, rfl⟩
    have hrb : room ≤ 4073 := by have := hr.2.2; omega
    by_cases hlt : i < sn
    · have hil : ((i : Int) < (sn : Int)) = True := by simp; omega
      have hw3 := wrapS hlt hmax
      have hsl := HS.out.1.keepN hb
      have hlL : i < sl.length := by rw [← HL.out]; exact hlt
      obtain ⟨b0, o0, ea, hbb, hat⟩ := hsl.sl.at hlt
      dsimp only at ea
      subst ea
      have d0 := hat 0 (by decide)
      have d1 := hat 1 (by decide)
      have d2 := hat 2 (by decide)
      simp only [RNl, Nat.add_zero, List.getElem?_cons_zero, List.getElem?_cons_succ] at d0 d1 d2
      have hst := szs_take (sz := szN) hlL
      have hmem := getD_mem hlL
      have hoy := HS.out.2 _ hmem
      have hNo := hsl.all _ hmem
      dsimp only at hat hmem hoy hNo
      generalize sl.getD i default = y at *
      have HSz := Lib.hid (show ∀ W, Calls Try.prog 66 #[y.v, .bool false] W fun e w' => e = .returned (.int .i64 (szN y : Nat)) ∧ Below W.heap.size W w' from fun W => by have := nsize_any false y hNo.1 W; rw [if_pos hoy] at this; exact this)
      have hp := szN_pos y
      have hp9 : szN y ≤ 9 := nb_len false hoy
      obtain ⟨sy, hsy⟩ : ∃ z, szN y = z := ⟨_, rfl⟩
      rw [hsy] at HSz hst hp hp9
      unfold Nl.v at HSz
      have e0 : ((sy : Int) == 0) = false := by simp; omega
      have G := Lib.hid (And.intro hr (And.intro hst (And.intro hlL hb)))
      clear hr hst hsl hlL hbb hat hmem hoy hNo hsy hb
      go_wp2_with (with_reducible refine halt_store 70 rfl ?_)
      refine Halted.go ?_
      have hal := (Below.refl w4.heap.size w4).alloc (Nat.le_refl _) (.cells #[.int .i64 0, .int .u32 0, .int .i64 0] 70)
      refine store_whole rfl 70 _ _ rfl w4.heap.size #[.int .i64 y.id, .int .u32 (y.a : Int), .int .i64 y.ln] rfl rfl (hnew _ _) rfl (by kernel_rfl) (by simp [Value.oneCell']) ?_
      intro wz hwz hsz
      have hzb : Below w4.heap.size w4 wz := Below.trans hal (hsz.below (Nat.le_refl _))
      obtain ⟨z0, z1, z2⟩ := BxN.cells (n := y) (W := wz) hwz
      have HZ := Lib.hid (bcall G.out.2.2.2 (Nat.le_refl _) hzb)
      clear hwz hsz hal hzb d0 d1 d2
      generalize w4.heap.size = q2 at *
      go_wp2_with fail
      refine (HSz.out _).mono ?_
      rintro e w5 ⟨rfl, hb⟩
      have G2 := Lib.hid (bcall HZ.out (Nat.le_refl _) hb)
      clear hb z0 z1 z2 HZ HSz
      by_cases h1 : room < sy
      · have e1 : ((room : Int) < (sy : Int)) = True := by simp; omega
        have H1 := Lib.hid h1
        clear h1 hrb hp hp9 hz
        go_wp2_with fail
        go_ret
        exact ⟨ret_int (by rw [← HF.out, fitI_is (sz := szN) (n := i) (by have := G.out.2.2.1; omega) G.out.1.1 G.out.1.2.1 (fun _ _ => by have h1 := G.out.2.1; have h2 := G.out.1.2.2; have h3 := H1.out; have h4 := G.out.1.2.1; omega)]), G2.out⟩
      · have e1 : ((room : Int) < (sy : Int)) = False := by simp; omega
        have H1 := Lib.hid h1
        by_cases h2 : 1024 ≤ i
        · have e2 : ((1024 : Int) ≤ (i : Int)) = True := by simp; omega
          have H2 := Lib.hid h2
          clear h1 h2 hrb hp hp9 hz
          go_wp2_with fail
          go_ret
          exact ⟨ret_int (by rw [← HF.out, fitI_is (sz := szN) (n := i) (by have := G.out.2.2.1; omega) G.out.1.1 G.out.1.2.1 (fun _ h => absurd h (by have := H2.out; omega))]), G2.out⟩
        · have e2 : ((1024 : Int) ≤ (i : Int)) = False := by simp; omega
          have H2 := Lib.hid (show FitR (4073 - az) sl (i + 1) (room - sy) from ⟨by omega, by have h5 := G.out.2.1; have h6 := G.out.1.2.2; have h7 := G.out.1.2.1; omega, by have h5 := G.out.2.1; have h6 := G.out.1.2.2; omega⟩)
          have hrs : ((room : Int) - (sy : Int)) = ((room - sy : Nat) : Int) := by omega
          have HRS := Lib.hid hrs
          have hsr : sy ≤ room := by omega
          clear h1 h2 hrs
          go_wp2_with fail
          exact ⟨⟨i + 1, room - sy, hlt, by first | rw [hw3] | rw [Int.natCast_succ], by rw [← HRS.out], H2.out, G2.out⟩, by first | (rw [hw3]; exact mSucc hlt) | (rw [← Int.natCast_succ]; exact mSucc hlt)⟩
    · obtain rfl : sn = i := by omega
      have hil : ((sn : Int) < (sn : Int)) = False := by simp
      have G := Lib.hid (And.intro hr hb)
      clear hr hb hrb
      go_wp2_with fail
      go_ret
      exact ⟨ret_int (by rw [← HF.out, fitI_is (sz := szN) (n := sn) (by rw [HL.out]; exact Nat.le_refl _) G.out.1.1 G.out.1.2.1 (fun h => absurd h (by rw [HL.out]; exact Nat.lt_irrefl _))]), G.out.2⟩
end Go.Proofs.Ytadoflcomienoaa
/- A slice cut to its first k, with room for no more. -/
namespace Go.Proofs.Ytadoflcomienoaa
namespace Rep
open Go.RowKit
variable {P : Program} {α : Type} [Inhabited α] {R : Rep α}
theorem cut_kk {t : TypeId} {bytes : Nat} (hT : Ty P t R bytes) {w : World} {a : Option Addr} {n c : Nat} {L : List α} (hs : R.Sl w a n c L) (hnc : n ≤ c) {i : Nat} (hi : i ≤ n) :
    ∃ sa, (∀ W, (Instr.sliceAt t (.slice a n c) none (some (.int .i64 (i : Int))) (some (.int .i64 (i : Int)))).run P W = .ok (.slice sa i i) W) ∧ (∀ W, (Instr.slice t (.slice a n c) none (some (.int .i64 (i : Int))) (some (.int .i64 (i : Int)))).run P W = .ok (.slice sa i i) W) ∧
      R.Sl w sa i i (L.take i) := by
  have h2 : ∀ W, (Instr.slice t (.slice a n c) none (some (.int .i64 (i : Int))) (some (.int .i64 (i : Int)))).run P W = .ok (.slice (cutAddr a 0 i R.k) i i) W := fun W => by
    rw [run_slice_hm W t a n c hT.elem' .i64 .i64 (i : Int) (i : Int) (by omega) (by omega) (by omega), hT.size W]
    simp only [Result.andThen, sliced, Int.toNat_natCast, cutAddr, Nat.sub_zero]
  refine ⟨cutAddr a 0 i R.k, fun W => ?_, h2, ⟨by rw [List.length_take, ← hs.len]; omega, by have := hs.max; omega, fun h0 => ?_⟩⟩
  · rw [run_sliceAt_slice W t _ _ _ _ hT.elem']; exact h2 W
  · obtain ⟨b, o, e, hr⟩ := hs.row (by omega)
    obtain ⟨o', e', ho'⟩ := cutAddr_some (b := b) (o := o) (l := 0) (m := i) (k := R.k)
    rw [e, e']
    refine ⟨b, o', rfl, ?_⟩
    rw [ho' (by omega), Nat.zero_mul, Nat.add_zero]
    exact hr.take i
end Rep
end Go.Proofs.Ytadoflcomienoaa
/- Great structs: an aggregate known by a few of its cells: loaded whole, built, with its cells out of sight. -/
namespace Go.Proofs.Ytadoflcomienoaa
open Go.RowKit

section
variable {P : Program} {ops : Array Oper} {rest : List Oper} {o : Oper} {a : Act} {Q : Exit → Act → World → Prop} {w : World}
theorem halt_load (ty : TypeId) {x : Operand} (_ho : o.op = .load ty x) (h : Halted (wpList P ops Q (o :: rest) a w)) : wpList P ops Q (o :: rest) a w := h
theorem halt_build (ty : TypeId) {x : Array (Nat × Operand)} (_ho : o.op = .build ty x) (h : Halted (wpList P ops Q (o :: rest) a w)) : wpList P ops Q (o :: rest) a w := h
theorem load_whole (hgd : o.guard = none) (ty : TypeId) (x : Operand) (ho : o.op = .load ty x) (b : Nat) (cells : Array Value) (hx : a.eval x = .pointer (some ⟨b, 0, none⟩))
    {T : TypeId} {fr : Nat × Nat} (hb : w.heap[b]? = some (.cells cells T fr)) {d : TypeDesc} (hu : P.underlying ty = some d) (hd : d.isRow = true) (hi : (P.info? ty).map (·.size) = some cells.size)
    (h : wpList P ops Q rest (a.put o.dst (.agg cells)) w) : wpList P ops Q (o :: rest) a w :=
  wpList_plain hgd fun K hK => by
    have hk := hK _ _ h
    unfold Oper.wp execOp
    have hr := run_load_whole (P := P) (ty := ty) hb hu hd hi
    have hl : (Instr.loadAt ty (.pointer (some ⟨b, 0, none⟩))).run P w = .ok (.agg cells) w := by
      simp only [Instr.loadAt, Instr.sureAddr, Sem.run_bind, Sem.run_pure, Result.andThen_ok]
      exact hr
    simp only [ho, hx, Sem.run_bind, hl, Sem.run_pure, Result.andThen_ok]
    exact hk
theorem exec_load_whole (ty : TypeId) (x : Operand) (ho : o.op = .load ty x) (b : Nat) (cells : Array Value) (hx : a.eval x = .pointer (some ⟨b, 0, none⟩))
    {T : TypeId} {fr : Nat × Nat} (hb : w.heap[b]? = some (.cells cells T fr)) {d : TypeDesc} (hu : P.underlying ty = some d) (hd : d.isRow = true) (hi : (P.info? ty).map (·.size) = some cells.size) : (execOp a.eval o).run P w = .ok (.value (.agg cells)) w := by
  have hl : (Instr.loadAt ty (.pointer (some ⟨b, 0, none⟩))).run P w = .ok (.agg cells) w := by
    simp only [Instr.loadAt, Instr.sureAddr, Sem.run_bind, Sem.run_pure, Result.andThen_ok]
    exact run_load_whole (P := P) (ty := ty) hb hu hd hi
  unfold execOp
  simp only [ho, hx, Sem.run_bind, hl, Sem.run_pure, Result.andThen_ok]
theorem exec_build (ty : TypeId) (x : Array (Nat × Operand)) (ho : o.op = .build ty x) (cells : Array Value) (hp : P.built ty (x.toList.map (fun p => (p.1, a.eval p.2))) = some cells) : (execOp a.eval o).run P w = .ok (.value (.agg cells)) w := by
  have hl := run_build (P := P) w ty (x.map (fun p => (p.1, a.eval p.2))) cells (by rw [Array.toList_map]; exact hp)
  unfold execOp
  simp only [ho, Sem.run_bind, hl, Sem.run_pure, Result.andThen_ok]
/-- an operation that yields a value -/
theorem op_value (hgd : o.guard = none) (v : Value) (hrun : (execOp a.eval o).run P w = .ok (.value v) w) (h : wpList P ops Q rest (a.put o.dst v) w) : wpList P ops Q (o :: rest) a w :=
  wpList_plain hgd fun K hK => by
    have hk := hK _ _ h
    unfold Oper.wp
    rw [hrun]
    exact hk
end
/-- the cells v are laid from off on -/
theorem lay_get (l : List Value) : ∀ (k off : Nat) (cs : Array Value), ((l.zipIdx k).foldl (fun cs (p : Value × Nat) => cs.setIfInBounds (off + p.2) p.1) cs).size = cs.size ∧
    ∀ j, off + k + l.length ≤ cs.size → ((l.zipIdx k).foldl (fun cs (p : Value × Nat) => cs.setIfInBounds (off + p.2) p.1) cs)[j]? = if off + k ≤ j ∧ j < off + k + l.length then l[j - (off + k)]? else cs[j]? := by
  induction l with
  | nil => intro k off cs; exact ⟨rfl, fun j _ => by rw [if_neg (by simp)]; rfl⟩
  | cons x r ih =>
    intro k off cs
    obtain ⟨h1, h2⟩ := ih (k + 1) off (cs.setIfInBounds (off + k) x)
    rw [List.zipIdx_cons, List.foldl_cons]
    refine ⟨by rw [h1]; simp, fun j hj => ?_⟩
    rw [List.length_cons] at hj ⊢
    rw [h2 j (by simp; omega), Array.getElem?_setIfInBounds]
    by_cases e : off + k = j
    · subst e
      rw [if_neg (by omega), if_pos rfl, if_pos (by omega), if_pos (by omega)]
      simp
    · by_cases c : off + (k + 1) ≤ j ∧ j < off + (k + 1) + r.length
      · rw [if_pos c, if_pos (by omega)]
        rw [show j - (off + k) = (j - (off + (k + 1))) + 1 by omega, List.getElem?_cons_succ]
      · rw [if_neg c, if_neg e, if_neg (by omega)]
theorem lay_arr (v : Array Value) (off : Nat) (cs : Array Value) : (v.zipIdx.foldl (fun cs (p : Value × Nat) => cs.setIfInBounds (off + p.2) p.1) cs).size = cs.size ∧
    ∀ j, off + v.size ≤ cs.size → (v.zipIdx.foldl (fun cs (p : Value × Nat) => cs.setIfInBounds (off + p.2) p.1) cs)[j]? = if off ≤ j ∧ j < off + v.size then v[j - off]? else cs[j]? := by
  have h := lay_get v.toList 0 off cs
  rw [← Array.foldl_toList, Array.toList_zipIdx]
  refine ⟨h.1, fun j hj => ?_⟩
  have h2 := h.2 j (by simpa using hj)
  simp only [Nat.add_zero, Array.length_toList, Array.getElem?_toList] at h2
  exact h2
end Go.Proofs.Ytadoflcomienoaa
/- Quiet steps of a drawn region: a guard that holds; a struct loaded whole; a call. -/
namespace Go.Proofs.Ytadoflcomienoaa
open Go Go.RowKit

section
variable {P : Program} {ops : Array Oper} {C : World → Prop} {Q : Act → Prop} {K : Act → Prop} {a : Act} {o : Oper} {rest : List Oper}
theorem wpQuiet_yes (h : ∀ K : Act → Prop, (∀ a, wpQuiet P ops C Q rest a → K a) → o.quiet P a C K) (hw : Region.wanted o (yielded ops a.tmps) = true) : wpQuiet P ops C Q (o :: rest) a := by
  unfold wpQuiet
  rw [if_pos hw]
  exact h _ fun _ h => h
theorem quiet_value (v : Value) (h : ∀ w, C w → (execOp a.eval o).run P w = .ok (.value v) w) (hK : K (a.put o.dst v)) : o.quiet P a C K :=
  ⟨v, fun w hw => by unfold Oper.quietAt; rw [h w hw]; exact ⟨rfl, rfl⟩, hK⟩
theorem exec_load_mid {w : World} (ty : TypeId) (x : Operand) (ho : o.op = .load ty x) (b off : Nat) (cells : Array Value) (hx : a.eval x = .pointer (some ⟨b, off, none⟩))
    (hb : w.rangeAt b off cells.toList) {d : TypeDesc} (hu : P.underlying ty = some d) (hd : d.isRow = true) (hi : (P.info? ty).map (·.size) = some cells.size) : (execOp a.eval o).run P w = .ok (.value (.agg cells)) w := by
  have hr := run_loadVar_mid (P := P) w b off ty cells.toList d hb hu hd (by simpa using hi)
  have hl : (Instr.loadAt ty (.pointer (some ⟨b, off, none⟩))).run P w = .ok (.agg cells) w := by
    simp only [Instr.loadAt, Instr.sureAddr, Sem.run_bind, Sem.run_pure, Result.andThen_ok]
    simpa using hr
  unfold execOp
  simp only [ho, hx, Sem.run_bind, hl, Sem.run_pure, Result.andThen_ok]
theorem quiet_load (ty : TypeId) (x : Operand) (ho : o.op = .load ty x) (b off : Nat) (cells : Array Value) (hx : a.eval x = .pointer (some ⟨b, off, none⟩))
    (hb : ∀ w, C w → w.rangeAt b off cells.toList) {d : TypeDesc} (hu : P.underlying ty = some d) (hd : d.isRow = true) (hi : (P.info? ty).map (·.size) = some cells.size) (hK : K (a.put o.dst (.agg cells))) : o.quiet P a C K :=
  quiet_value _ (fun _ hw => exec_load_mid ty x ho b off cells hx (hb _ hw) hu hd hi) hK
theorem rangeAt_block {w : World} {b : Nat} {cells : Array Value} {T : TypeId} {fr : Nat × Nat} (h : w.heap[b]? = some (.cells cells T fr)) (off : Nat) (l : List Value) (hl : (cells.toList.drop off).take l.length = l) : w.rangeAt b off l := by
  intro j v hv
  refine cell_of h ?_
  have hj : j < l.length := (List.getElem?_eq_some_iff.1 hv).1
  rw [← hl] at hv
  rw [List.getElem?_take, if_pos hj, List.getElem?_drop] at hv
  simpa using hv
end
end Go.Proofs.Ytadoflcomienoaa
/- A struct loaded whole, as one of those that read ahead of a write. -/
namespace Go.Proofs.Ytadoflcomienoaa
open Go Go.RowKit
section
variable {P : Program} {ops : Array Oper} {S : World → Prop} {L : Act → Prop} {K : Act → Prop} {a : Act} {o : Oper} {rest : List Oper}
theorem wpRead_yes (h : ∀ K : Act → Prop, (∀ a, wpRead P ops S L rest a → K a) → ∃ v, (∀ w, S w → (execOp a.eval o).run P w = .ok (.value v) w) ∧ K (a.put o.dst v)) (hw : Region.wanted o (yielded ops a.tmps) = true) : wpRead P ops S L (o :: rest) a := by
  unfold wpRead
  rw [if_pos hw]
  exact h _ fun _ h => h
theorem read_load (ty : TypeId) (x : Operand) (ho : o.op = .load ty x) (b off : Nat) (cells : Array Value) (hx : a.eval x = .pointer (some ⟨b, off, none⟩))
    (hb : ∀ w, S w → w.rangeAt b off cells.toList) {d : TypeDesc} (hu : P.underlying ty = some d) (hd : d.isRow = true) (hi : (P.info? ty).map (·.size) = some cells.size) (hK : K (a.put o.dst (.agg cells))) : ∃ v, (∀ w, S w → (execOp a.eval o).run P w = .ok (.value v) w) ∧ K (a.put o.dst v) :=
  ⟨_, fun _ hw => exec_load_mid ty x ho b off cells hx (hb _ hw) hu hd hi, hK⟩
end
end Go.Proofs.Ytadoflcomienoaa
/- The reference's Sort. -/
namespace Go.Proofs.Ytadoflcomienoaa
open Go.RowKit

/-- those of the first i, in order -/
structure SrtI (L : List Nl) (i : Nat) (out : List Nl) : Prop where
  ord : OrdN out
  mem : ∀ y, y ∈ out ↔ y ∈ L.take i
  len : out.length ≤ i
theorem SrtI.zero (L : List Nl) : SrtI L 0 [] := ⟨List.Pairwise.nil, by simp, Nat.le_refl _⟩
theorem take_getD {L : List Nl} {i : Nat} (h : i < L.length) : L.take (i + 1) = L.take i ++ [L.getD i default] := by
  rw [List.take_add_one, List.getElem?_eq_getElem h, Option.toList_some, List.getD_eq_getElem?_getD, List.getElem?_eq_getElem h, Option.getD_some]
theorem SrtI.skip {L out : List Nl} {i : Nat} (h : SrtI L i out) (hi : i < L.length) (hm : L.getD i default ∈ out) : SrtI L (i + 1) out :=
  ⟨h.ord, fun y => by
    rw [take_getD hi, List.mem_append, List.mem_singleton, ← h.mem]
    exact ⟨.inl, fun h2 => h2.elim id (fun e => e ▸ hm)⟩, Nat.le_succ_of_le h.len⟩
theorem SrtI.ins {L out : List Nl} {i k : Nat} {x : Nl} (h : SrtI L i out) (hi : i < L.length) (hx : L.getD i default = x) (hlow : ∀ a, a < k → ltN (out.getD a default) x = true) (hk : k ≤ out.length) (hup : k < out.length → ltN x (out.getD k default) = true) : SrtI L (i + 1) (out.take k ++ [x] ++ out.drop k) :=
  ⟨h.ord.ins hlow hk hup, fun y => by
    rw [take_getD hi, hx, mem_ins, List.mem_append, List.mem_singleton, ← h.mem]
    exact or_comm, by
    have := h.len
    simp only [List.length_append, List.length_take, List.length_drop, List.length_singleton]
    omega⟩
theorem SrtI.all {L out : List Nl} (h : SrtI L L.length out) : out = sortN L := sortN_is h.ord (fun y => by rw [h.mem, List.take_length])
theorem at_range {W : World} {b o : Nat} {z : Nl} (h : RNl.At W b o z) : W.rangeAt b o (#[Value.int .i64 z.id, .int .u32 (z.a : Int), .int .i64 z.ln] : Array Value).toList := by
  intro j v hv
  have hj : j < 3 := (List.getElem?_eq_some_iff.1 hv).1
  exact (h j hj).trans hv
theorem nl_ne {z x : Nl} (h : z ≠ x) : (z.id == x.id) = false ∨ (z.id = x.id ∧ ((z.a : Int) == (x.a : Int)) = false) ∨ (z.id = x.id ∧ (z.a : Int) = (x.a : Int) ∧ (z.ln == x.ln) = false) := by
  by_cases e : z.id = x.id
  · by_cases f : z.a = x.a
    · exact .inr (.inr ⟨e, by rw [f], by simpa using fun g : z.ln = x.ln => h (Nl.ext' e (Prod.ext f g))⟩)
    · exact .inr (.inl ⟨e, by simpa using fun g : ((z.a : Nat) : Int) = (x.a : Int) => f (by omega)⟩)
  · exact .inl (by simpa using e)
structure SrS (w : World) (b o : Nat) (x : Nl) (W : World) : Prop where
  at' : RNl.At W b o x
  lt : b < w.heap.size
  old : Below w.heap.size w W
theorem SrS.keep {w : World} {b o : Nat} {x : Nl} {W W' : World} (h : SrS w b o x W) (hb : Below W.heap.size W W') : SrS w b o x W' := ⟨h.at'.keep (hb.block _ (Nat.lt_of_lt_of_le h.lt h.old.size)), h.lt, bcall h.old (Nat.le_refl _) hb⟩
structure SrD (w : World) (b o : Nat) (x : Nl) (g og : Nat) (z : Nl) (W : World) : Prop where
  s : SrS w b o x W
  at' : RNl.At W g og z
theorem SrD.keep {w : World} {b o : Nat} {x : Nl} {g og : Nat} {z : Nl} {W W' : World} (h : SrD w b o x g og z W) (hb : Below W.heap.size W W') (hl : g < W.heap.size) : SrD w b o x g og z W' := ⟨h.s.keep hb, h.at'.keep (hb.block _ hl)⟩
end Go.Proofs.Ytadoflcomienoaa
/- Which lists of prefixes are the same. -/
namespace Go.Proofs.Ytadoflcomienoaa
open Go.RowKit

structure TwoN2 (b0 o0 b1 o1 : Nat) (x y : Nl) (W : World) : Prop where
  l : RNl.At W b0 o0 x
  r : RNl.At W b1 o1 y
end Go.Proofs.Ytadoflcomienoaa
/- Which updates are the same, as the reference tells. -/
namespace Go.Proofs.Ytadoflcomienoaa
open Go.RowKit

theorem up_eq {x y : UpV} : decide (x.up = y.up) = ((x.soft == y.soft) && (decide (x.g.l = y.g.l) && (decide (x.r.l = y.r.l) && decide (x.a.at = y.a.at)))) := by
  rw [Bool.eq_iff_iff]
  unfold UpV.up
  simp only [decide_eq_true_eq, Up.mk.injEq, Bool.and_eq_true, beq_iff_eq]
  constructor
  · rintro ⟨h1, h2, h3, h4⟩; exact ⟨h4, h1, h2, h3⟩
  · rintro ⟨h4, h1, h2, h3⟩; exact ⟨h1, h2, h3, h4⟩
end Go.Proofs.Ytadoflcomienoaa
/- The body of an update, as the reference tells: how many bytes. -/
namespace Go.Proofs.Ytadoflcomienoaa
open Go.RowKit

theorem own_two {W : World} {g base n : Nat} (h : W.heap[g]? = some (.cells #[.int .u8 ((n : Int) / 256), .int .u8 ((n : Int) % 256)] 5)) (hb : base ≤ g) : RB.Own W base (.slice (some ⟨g, 0, none⟩) 2 2) [n / 256, n % 256] := by
  have e1 : (n : Int) / 256 = ((n / 256 : Nat) : Int) := by omega
  have e2 : (n : Int) % 256 = ((n % 256 : Nat) : Int) := by omega
  rw [e1, e2] at h
  exact Rep.own_flat (R := RB) (M := [n / 256, n % 256]) h hb (by unfold maxLen; simp)
theorem own_sl {W : World} {g base : Nat} {L : List Nat} {n c : Nat} (h : RB.Own W base (.slice (some ⟨g, 0, none⟩) n c) L) (hn : L.length = n) : RB.Sl W (some ⟨g, 0, none⟩) n c L := by
  obtain ⟨a, c', e, hs, -⟩ := h.sl0
  injection e with e1 e2 e3
  subst hn
  rw [e1, e3]
  exact hs
end Go.Proofs.Ytadoflcomienoaa
/- Which updates may be put, as the reference tells. -/
namespace Go.Proofs.Ytadoflcomienoaa
open Go.RowKit

end Go.Proofs.Ytadoflcomienoaa
/- How many prefixes fit, as the reference tells. -/
namespace Go.Proofs.Ytadoflcomienoaa
open Go.RowKit

/-- an update of what comes alone -/
def upR (L : List Nl) (a : At) : Up := ⟨[], L, a, false⟩
theorem nbs_szs (L : List Nl) : (nbs false L).length = szs szN L := by
  unfold nbs szs szN
  induction L with
  | nil => rfl
  | cons x r ih => rw [List.flatMap_cons, List.length_append, ih, List.map_cons, List.sum_cons]
theorem chkU_R {four : Bool} {L : List Nl} {a : At} (hL : ∀ n ∈ L, okN false n = true) (ha : okA four a = true) (h0 : L ≠ []) : chkU four (upR L a) = (decide (L.length ≤ 1024) && decide (asz four a + szs szN L ≤ 4073)) := by
  have hl : ¬ L.length = 0 := fun h => h0 (List.length_eq_zero_iff.1 h)
  have h1 : okL false L = decide (L.length ≤ 1024) := by
    unfold okL
    rw [List.all_eq_true.2 hL, Bool.and_true]
  unfold chkU lenU upR okAt aszU
  dsimp only
  rw [if_neg hl, if_neg hl, ha, h1, show (nbs false ([] : List Nl)).length = 0 from rfl, nbs_szs, show okL false ([] : List Nl) = true from rfl]
  rw [Bool.eq_iff_iff]
  simp only [Bool.and_eq_true, decide_eq_true_eq, Bool.not_false, true_and, and_true]
  omega
end Go.Proofs.Ytadoflcomienoaa
/- Slices of the call's own whose elements hold slices themselves. -/
namespace Go.Proofs.Ytadoflcomienoaa
open Go.RowKit
/-- it holds whatever becomes of a block, and of new ones -/
def Firm (g : Option Nat) (w : World) (P : World → Prop) : Prop := ∀ w', w.grownBy w' g → P w'
theorem grown_of {w w' : World} (h : Below w.heap.size w w') (g : Option Nat) : w.grownBy w' g := ⟨h.os, h.tape, h.output, h.size, fun k hk _ => h.block k hk⟩
theorem grown_below {B : Nat} {w w' : World} {g : Option Nat} (h : w.grownBy w' g) (hB : B ≤ w.heap.size) (hg : ∀ k, g = some k → B ≤ k) : Below B w w' :=
  ⟨h.os, h.tape, h.output, h.size, fun k hk => h.block k (by omega) (fun e => by have := hg k e.symm; omega)⟩
section
variable {g g' : Option Nat} {w w1 : World} {P Q : World → Prop}
theorem Firm.now (h : Firm g w P) : P w := h w (World.grownBy.refl _ _)
theorem Firm.imp (h : Firm g w P) (hi : ∀ W, P W → Q W) : Firm g w Q := fun w' h' => hi _ (h w' h')
theorem Firm.turn (h : Firm g w P) (hb : w.grownBy w1 g) (hg : ∀ b, b < w.heap.size → g' = some b → g = some b) : Firm g' w1 P := fun w' h' =>
  h w' ⟨h'.os.trans hb.os, h'.tape.trans hb.tape, h'.output.trans hb.output, Nat.le_trans hb.size h'.size, fun b hlt hne => (h'.block b (Nat.lt_of_lt_of_le hlt hb.size) (fun e => hne (hg b hlt e.symm).symm)).trans (hb.block b hlt hne)⟩
theorem Firm.below (h : Firm g w P) (hb : Below w.heap.size w w1) : Firm g w1 P := h.turn (grown_of hb g) fun _ _ e => e
/-- things that a call found: they hold, whatever becomes of blocks of its own -/
theorem Firm.old {w0 : World} (hb : Below w0.heap.size w0 w) (hk : ∀ W, Below w0.heap.size w0 W → P W) (hg : ∀ k, g = some k → w0.heap.size ≤ k) : Firm g w P := fun w' h' =>
  hk w' (hb.trans (grown_below h' hb.size hg))
theorem Firm.sl {α : Type} [Inhabited α] {R : Rep α} {a : Option Addr} {n c : Nat} {L : List α} (h : R.Sl w a n c L) (hg : 0 < n → ∀ x, a = some x → some x.block ≠ g) : Firm g w fun W => R.Sl W a n c L := fun w' h' =>
  ⟨h.len, h.max, fun hn => by
    obtain ⟨b, o, e, r⟩ := h.row hn
    exact ⟨b, o, e, r.keep (h'.block b r.lt (hg hn _ e))⟩⟩
end
/-- a slice of the call's own; all of its elements hold, whatever becomes of it -/
structure OwnP {α : Type} [Inhabited α] (R : Rep α) (P : World → α → Prop) (w : World) (base : Nat) (v : Value) (L : List α) : Prop where
  own : R.Own w base v L
  el : ∀ x ∈ L, Firm v.ownBlock w fun W => P W x
section
variable {α : Type} [Inhabited α] {R : Rep α} {P : World → α → Prop} {w w' : World} {base : Nat} {v v' : Value} {L M : List α}
theorem OwnP.nil : OwnP R P w base (.slice none 0 0) [] := ⟨Rep.Own.nil _ _, fun _ h => by cases h⟩
theorem OwnP.below (h : OwnP R P w base v L) (hb : Below w.heap.size w w') : OwnP R P w' base v L := ⟨h.own.below hb, fun x hx => (h.el x hx).below hb⟩
theorem OwnP.mono {base' : Nat} (h : OwnP R P w base v L) (hb : base' ≤ base) : OwnP R P w base' v L := ⟨h.own.mono hb, h.el⟩
theorem OwnP.append (h : OwnP R P w base v L) (hown : R.Own w' base v' (L ++ M)) (hg : w.grownBy w' v.ownBlock) (hf : v'.ownBlock = v.ownBlock ∨ v'.ownBlock = some w.heap.size) (hM : ∀ x ∈ M, Firm v.ownBlock w fun W => P W x) : OwnP R P w' base v' (L ++ M) := by
  have hg' : ∀ b, b < w.heap.size → v'.ownBlock = some b → v.ownBlock = some b := by
    intro b hb e
    rcases hf with hf | hf
    · exact hf.symm.trans e
    · rw [hf] at e; injection e with e; omega
  refine ⟨hown, fun x hx => ?_⟩
  rcases List.mem_append.1 hx with hx | hx
  · exact (h.el x hx).turn hg hg'
  · exact (hM x hx).turn hg hg'
namespace Rep
variable {Pr : Program}
/-- where append lays its answer -/
theorem append_where {t ty : TypeId} {bytes : Nat} (hT : Ty Pr t R bytes) (hown : R.Own w base v L) {sa : Option Addr} {m c : Nat} (hM : R.Sl w sa m c M) (hc : sa = none → c = 0)
    (hmax : L.length + m ≤ maxLen) (hbytes : (L.length + m) * bytes ≤ 140737488355328) {u : Value} {wu : World} (hr : (Builtin.append_ #[t, t] ty #[v, .slice sa m c]).run Pr w = .ok u wu) : u.ownBlock = v.ownBlock ∨ u.ownBlock = some w.heap.size := by
  obtain ⟨i, z, h1, h2, h3, h4, h5⟩ := hT.hi
  have hsmall : L.length + m ≤ 9223372036854775807 := by simp only [maxLen] at hmax; omega
  cases sa with
  | none =>
    obtain rfl := hc rfl
    have hm : m = 0 := by
      rcases Nat.eq_zero_or_pos m with h0 | h0
      · exact h0
      · obtain ⟨b, o, e, _⟩ := hM.row h0; cases e
    subst hm
    rw [run_append_owned_none (w := w) base t ty R.T i R.k hT.ht h1 v L.length (R.flat L) hown] at hr
    injection hr with hr _
    exact .inl (by rw [hr])
  | some ad =>
    have hl : (R.flat M).length = m * i.size := by rw [R.flat_length, ← hM.len, h3]
    have hnews : ∀ j u, (R.flat M)[j]? = some u → w.cell? (ad.add j) = some u := by
      rcases Nat.eq_zero_or_pos m with h0 | h0
      · have hMe : M = [] := List.length_eq_zero_iff.1 (hM.len.symm.trans h0)
        subst hMe; intro j u hu; simp [flat] at hu
      · obtain ⟨b, o, e, hw9⟩ := hM.row h0
        cases e
        exact news_of_row hw9
    rcases hown.2 with ⟨rfl, h0⟩ | ⟨g, cap, cur, rfl, hbg, hg, hnc, hcm, hcs, htake⟩
    · rcases Nat.eq_zero_or_pos m with hm | hm
      · subst hm
        have : (Builtin.append_ #[t, t] ty #[.slice none 0 0, .slice (some ad) 0 c]).run Pr w = .ok (.slice none 0 0) w := by simp [Builtin.append_, run_underlying hT.ht, sizeOf, typeInfo, h1, Builtin.lenOf, Builtin.firstCells, loadCells, loadCellsFrom]
        rw [this] at hr
        injection hr with hr _
        exact .inl (by rw [← hr])
      · rw [run_append_nil (P := Pr) w t ty R.T i z hT.ht h1 h2 ad m c (R.flat M) hl hnews hm (by omega) (by rw [h4]; rw [h0] at hbytes; simp only [Nat.zero_add] at hbytes; omega)] at hr
        injection hr with hr _
        exact .inr (by rw [← hr]; rfl)
    · by_cases hroom : L.length + m ≤ cap
      · rw [run_append_room (P := Pr) w t ty R.T i hT.ht h1 g L.length cap cur hg ad m c (R.flat M) hl hnews (fun u hu => R.flat_cell1 M u hu) hroom (by rw [hl, hcs, h3, ← Nat.add_mul]; exact Nat.mul_le_mul_right _ hroom)] at hr
        injection hr with hr _
        exact .inl (by rw [← hr]; rfl)
      · have holds : ∀ j u, (R.flat L)[j]? = some u → w.cell? ((⟨g, 0, none⟩ : Addr).add j) = some u := World.ownsRow.cells (g := g) hown rfl
        rw [run_append_grow (P := Pr) w t ty R.T i z hT.ht h1 h2 ⟨g, 0, none⟩ L.length cap (R.flat L) (by rw [R.flat_length, h3]) holds ad m c (R.flat M) hl hnews (by omega) (by omega) (by rw [h4]; exact growslice_fits (by omega) hbytes)] at hr
        injection hr with hr _
        exact .inr (by rw [← hr]; rfl)
variable {ops : Array Oper} {rest : List Oper} {o : Oper} {a : Act} {Q : Exit → Act → World → Prop}
/-- append(v, l...) of elements that hold slices -/
theorem append_listP {t : TypeId} {bytes : Nat} (hT : Ty Pr t R bytes) (hgd : o.guard = none) (s x : Operand) (ho : o.op = .call { callee := .builtin .append, args := #[s, x], argTypes := #[t, t] })
    (hs : a.eval s = v) (hown : OwnP R P w base v L) {sa : Option Addr} {m c : Nat} (hx : a.eval x = .slice sa m c) (hM : R.Sl w sa m c M) (hc : sa = none → c = 0)
    (hel : ∀ x ∈ M, Firm v.ownBlock w fun W => P W x) (hmax : L.length + m ≤ maxLen) (hbytes : (L.length + m) * bytes ≤ 140737488355328) (hbase : base ≤ w.heap.size)
    (h : ∀ v' w', OwnP R P w' base v' (L ++ M) → Below base w w' → wpList Pr ops Q rest (a.put o.dst v') w') : wpList Pr ops Q (o :: rest) a w :=
  wpList_plain hgd fun K hK => by
    obtain ⟨v', w', e1, e2, e3, e4⟩ := run_append_list hT hown.own hM hc hmax hbytes hbase (ty := o.type)
    have hk := hK _ _ (h v' w' (hown.append e2 e4 (append_where hT hown.own hM hc hmax hbytes e1) hel) e3)
    unfold Oper.wp execOp
    simp only [ho, resolve, invoke, builtin, Sem.run_bind, Sem.run_pure, Result.andThen_ok, List.map_toArray, List.map_cons, List.map_nil, hs, hx, e1]
    exact hk
/-- append(v, l...): where the answer lies, what else stays -/
theorem append_listW {t : TypeId} {bytes : Nat} (hT : Ty Pr t R bytes) (hgd : o.guard = none) (s x : Operand) (ho : o.op = .call { callee := .builtin .append, args := #[s, x], argTypes := #[t, t] })
    (hs : a.eval s = v) (hown : R.Own w base v L) {sa : Option Addr} {m c : Nat} (hx : a.eval x = .slice sa m c) (hM : R.Sl w sa m c M) (hc : sa = none → c = 0)
    (hmax : L.length + m ≤ maxLen) (hbytes : (L.length + m) * bytes ≤ 140737488355328) (hbase : base ≤ w.heap.size)
    (h : ∀ v' w', R.Own w' base v' (L ++ M) → Below base w w' → w.grownBy w' v.ownBlock → (v'.ownBlock = v.ownBlock ∨ v'.ownBlock = some w.heap.size) → wpList Pr ops Q rest (a.put o.dst v') w') : wpList Pr ops Q (o :: rest) a w :=
  wpList_plain hgd fun K hK => by
    obtain ⟨v', w', e1, e2, e3, e4⟩ := run_append_list hT hown hM hc hmax hbytes hbase (ty := o.type)
    have hk := hK _ _ (h v' w' e2 e3 e4 (append_where hT hown hM hc hmax hbytes e1))
    unfold Oper.wp execOp
    simp only [ho, resolve, invoke, builtin, Sem.run_bind, Sem.run_pure, Result.andThen_ok, List.map_toArray, List.map_cons, List.map_nil, hs, hx, e1]
    exact hk
/-- append(v, l...) of elements that hold slices; what is firm against it stays so -/
theorem append_listQ {t : TypeId} {bytes : Nat} (hT : Ty Pr t R bytes) (hgd : o.guard = none) (s x : Operand) (ho : o.op = .call { callee := .builtin .append, args := #[s, x], argTypes := #[t, t] })
    (hs : a.eval s = v) (hown : OwnP R P w base v L) {sa : Option Addr} {m c : Nat} (hx : a.eval x = .slice sa m c) (hM : R.Sl w sa m c M) (hc : sa = none → c = 0)
    (hel : ∀ x ∈ M, Firm v.ownBlock w fun W => P W x) (hmax : L.length + m ≤ maxLen) (hbytes : (L.length + m) * bytes ≤ 140737488355328) (hbase : base ≤ w.heap.size)
    (h : ∀ v' w', OwnP R P w' base v' (L ++ M) → Below base w w' → (∀ Z : World → Prop, Firm v.ownBlock w Z → Firm v'.ownBlock w' Z) → wpList Pr ops Q rest (a.put o.dst v') w') : wpList Pr ops Q (o :: rest) a w :=
  append_listW hT hgd s x ho hs hown.own hx hM hc hmax hbytes hbase fun v' w' e2 e3 e4 e5 => h v' w' (hown.append e2 e4 e5 hel) e3 fun Z hZ => hZ.turn e4 (by
    intro b hb e
    rcases e5 with hf | hf
    · exact hf.symm.trans e
    · rw [hf] at e; injection e with e; omega)
end Rep
end
end Go.Proofs.Ytadoflcomienoaa
