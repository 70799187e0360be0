/- What is said, by prefixes: a map. -/
import Derived.Test.YtadoflcomienoaaQam
import Derived.Test.YtadoflcomienoaaQac
import Derived.DeepKeys4
import Derived.Shelf.SlLaysF0
import Derived.Test.YtadoflcomienoaaProg
import Derived.Test.YtadoflcomienoaaQaa
import Derived.Shelf.SlSortCmp.WholeK
import Derived.Shelf.SlSortCmp.NoneTotal
import Derived.Test.YtadoflcomienoaaQae
namespace Go.Proofs.Ytadoflcomienoaa
open Go.RowKit
open Go.ChangeMaps (setBlock)

theorem laidOut : laidOutB Try.prog = true := by kernel_rfl
theorem rowP : (33 : TypeId) < Try.prog.types.size := of_decide_eq_true (by kernel_rfl)
theorem wideP : (match Try.prog.underlying 33 with | some (.array _ _) | some (.struct _) => true | _ => false) = true := by kernel_rfl
set_option maxRecDepth 100000 in
theorem lawP : WideMaps.KeyLaw Try.prog 33 := deep_law_laid laidOut (m := 2) (by omega) rowP (by kernel_rfl) wideP
theorem keyP : Try.prog.keyType 33 = true := by kernel_rfl
theorem sizeT : Try.prog.types.size + 1 = 173 + 1 + 1 + 1 := by kernel_rfl
theorem cellsP : Try.prog.cellsOf 33 = 2 := by kernel_rfl
theorem cells3 : Try.prog.cellsOf 3 = 1 := by kernel_rfl
theorem cells22 : Try.prog.cellsOf 23 = 1 := by kernel_rfl
def PK.val (k : PK) : Value := .agg #[.int .u32 (k.1 : Int), .int .i64 k.2]
def PK.wf (k : PK) : Prop := (Lit.int .u32 (k.1 : Int)).wf = true ∧ (Lit.int .i64 k.2).wf = true
theorem PK.reads (k : PK) (h : PK.wf k) : ∃ l, keyOf Try.prog 33 (PK.val k) = some l := by
  obtain ⟨h2, h3⟩ := h
  have hf : (PK.val k).formed Try.prog 33 = true := by simp [Value.formed, Try.underlying33, PK.val, cellsP]
  have i1 : ∀ d n, (Lit.int .i64 n).wf = true → Try.prog.keyLits (d + 1) 3 [.int .i64 n] = some [.int .i64 n] := by
    intro d n h; simp [Program.keyLits, Try.underlying3, h]
  have i2 : ∀ d n, (Lit.int .u32 n).wf = true → Try.prog.keyLits (d + 1) 23 [.int .u32 n] = some [.int .u32 n] := by
    intro d n h; simp [Program.keyLits, Try.underlying23, h]
  have i3 : ∀ d, Try.prog.keyLits (d + 1 + 1) 33 [.int .u32 (k.1 : Int), .int .i64 k.2] = some [.int .u32 (k.1 : Int), .int .i64 k.2] := by
    intro d; unfold Program.keyLits; simp [Try.underlying33, cellsP, cells3, cells22, i1 d _ h3, i2 d _ h2]
  unfold keyOf
  simp only [Try.underlying33]
  rw [keyP, hf, sizeT]
  have := i3 (173 + 1)
  simp only [PK.val, Value.cells, this]
  exact ⟨_, rfl⟩
def PN : MR.Enc Try.prog 33 PK where
  enc := PK.val
  ok := PK.wf
  law := Maps.Keyed.of_law lawP
  reads := PK.reads
  inj a b h := by
    obtain ⟨a1, a2⟩ := a
    obtain ⟨b1, b2⟩ := b
    simp [PK.val] at h
    exact Prod.ext (by omega) h.2
theorem PN_ok {w : World} {x : SyV} (h : SyOk w x) : PN.ok x.k := ⟨wfU ⟨by omega, by have := h.k.1; omega⟩, wfI h.k.2⟩
theorem zeroA (w : World) : (zeroValue 26).run Try.prog w = .ok (.agg #[.int .i64 0, .slice none 0 0, .int .u32 0, .int .i64 0, .int .i64 0, .slice none 0 0]) w := by kernel_rfl
/-- the map of these -/
def SaidAt (w : World) (bm : Nat) (L : List SyV) : Prop := ∃ clk es, MR.MapAt PN w bm es clk ∧ Kl.Lay SyV.k (fun x => x.a.v) es L
theorem SaidAt.on {w w' : World} {bm : Nat} {L : List SyV} (h : SaidAt w bm L) (e : w'.heap[bm]? = w.heap[bm]?) : SaidAt w' bm L := by
  obtain ⟨clk, es, h1, h2⟩ := h
  exact ⟨clk, es, h1.blk_iff PN e, h2⟩
theorem SaidAt.lt {w : World} {bm : Nat} {L : List SyV} (h : SaidAt w bm L) : bm < w.heap.size := by
  obtain ⟨clk, es, h1, h2⟩ := h
  exact lt_of_blk h1.blk
theorem SaidAt.keep {w w' : World} {bm : Nat} {L : List SyV} (h : SaidAt w bm L) (hb : Below w.heap.size w w') : SaidAt w' bm L := h.on (hb.block _ h.lt)
theorem SaidAt.nd {w : World} {bm : Nat} {L : List SyV} (h : SaidAt w bm L) : (L.map SyV.k).Nodup := by
  obtain ⟨clk, es, h1, h2⟩ := h
  exact h2.nd
def getA (L : List SyV) (k : PK) : AtV := ((Kl.look SyV.k L k).map SyV.a).getD atZV
def hasY (L : List SyV) (k : PK) : Bool := (Kl.look SyV.k L k).isSome
theorem SaidAt.lookup {w : World} {bm : Nat} {L : List SyV} (H : SaidAt w bm L) {k : PK} (hk : PN.ok k) (W : World) (hW : W.heap[bm]? = w.heap[bm]?) :
    (Instr.lookup 65 (.map (some bm)) (.agg #[.int .u32 (k.1 : Int), .int .i64 k.2]) true).run Try.prog W = .ok (.tuple #[.agg #[.int .i64 (getA L k).o, .slice (getA L k).p.a (getA L k).p.n (getA L k).p.c, .int .u32 (getA L k).nx, .int .i64 (getA L k).md, .int .i64 (getA L k).pf, .slice (getA L k).c.a (getA L k).c.n (getA L k).c.c], .bool (hasY L k)]) W := by
  obtain ⟨clk, es, k2, k3⟩ := H
  have h := MR.run_lookup PN (k2.blk_iff PN hW) hk Try.underlying65 zeroA true
  rw [k3.get, if_pos rfl] at h
  have e1 : ((Kl.look SyV.k L k).map fun x => x.a.v).getD (.agg #[.int .i64 0, .slice none 0 0, .int .u32 0, .int .i64 0, .int .i64 0, .slice none 0 0]) = (getA L k).v := by unfold getA; cases Kl.look SyV.k L k <;> rfl
  have e2 : ((Kl.look SyV.k L k).map fun x => x.a.v).isSome = hasY L k := by unfold hasY; cases Kl.look SyV.k L k <;> rfl
  rw [e1, e2] at h
  exact h
theorem SaidAt.put {w : World} {bm : Nat} {L L' : List SyV} (H : SaidAt w bm L) {x : SyV} (hk : PN.ok x.k) (hL : (L'.map SyV.k).Nodup) (hl : ∀ k, Kl.look SyV.k L' k = if k = x.k then some x else Kl.look SyV.k L k) :
    ∃ O, (Instr.mapUpdate 65 (.map (some bm)) (.agg #[.int .u32 (x.k.1 : Int), .int .i64 x.k.2]) (.agg #[.int .i64 x.a.o, .slice x.a.p.a x.a.p.n x.a.p.c, .int .u32 x.a.nx, .int .i64 x.a.md, .int .i64 x.a.pf, .slice x.a.c.a x.a.c.n x.a.c.c])).run Try.prog w = .ok () (setBlock w bm O) ∧ SaidAt (setBlock w bm O) bm L' := by
  obtain ⟨clk, es, k2, k3⟩ := H
  have hu := MR.run_update PN k2 hk Try.underlying65 (x.a.v)
  exact ⟨_, hu.1, ⟨_, _, hu.2, k3.put hL hl hu.2.nodup hu.2.bnodup⟩⟩
theorem SaidAt.delete {w : World} {bm : Nat} {L : List SyV} (H : SaidAt w bm L) {k : PK} (hk : PN.ok k) (K' ty : TypeId) :
    ∃ O, (Builtin.delete_ #[65, K'] ty #[.map (some bm), .agg #[.int .u32 (k.1 : Int), .int .i64 k.2]]).run Try.prog w = .ok (.tuple #[]) (setBlock w bm O) ∧ SaidAt (setBlock w bm O) bm (L.filter fun x => decide (x.k ≠ k)) := by
  obtain ⟨clk, es, k2, k3⟩ := H
  have hu := MR.run_delete PN k2 hk Try.underlying65 (K' := K') ty
  exact ⟨_, hu.1, ⟨_, _, hu.2, k3.del k⟩⟩
theorem SaidAt.len {w : World} {bm : Nat} {L : List SyV} (H : SaidAt w bm L) (W : World) (hW : W.heap[bm]? = w.heap[bm]?) (ty : TypeId) : (Builtin.len_ #[65] ty #[.map (some bm)]).run Try.prog W = .ok (.int .i64 L.length) W := by
  obtain ⟨clk, es, k2, k3⟩ := H
  have := MR.run_len PN (k2.blk_iff PN hW) Try.underlying65 ty
  rw [k3.len] at this
  exact this
theorem below_setBlock {B b : Nat} {w W : World} {o : Obj} (h : Below B w W) (hb : B ≤ b) : Below B w (setBlock W b o) :=
  ⟨h.os, h.tape, h.output, by show w.heap.size ≤ (W.heap.setIfInBounds b o).size; rw [Array.size_setIfInBounds]; exact h.size, fun i hi => by
    show (W.heap.setIfInBounds b o)[i]? = _
    rw [Array.getElem?_setIfInBounds, if_neg (by omega)]
    exact h.block i hi⟩
theorem grown_setBlock {b : Nat} {W : World} {o : Obj} : W.grownBy (setBlock W b o) (some b) :=
  ⟨rfl, rfl, rfl, by show W.heap.size ≤ (W.heap.setIfInBounds b o).size; rw [Array.size_setIfInBounds]; exact Nat.le_refl _, fun i _ hne => by
    show (W.heap.setIfInBounds b o)[i]? = _
    rw [Array.getElem?_setIfInBounds, if_neg (fun e => hne (by rw [e]))]⟩
theorem firsts_put {M : List SyV} (hM : (M.map SyV.k).Nodup) {x : SyV} (h : Kl.look SyV.k M x.k = none) : ((M ++ [x]).map SyV.k).Nodup ∧ ∀ k, Kl.look SyV.k (M ++ [x]) k = if k = x.k then some x else Kl.look SyV.k M k := by
  constructor
  · rw [List.map_append, List.nodup_append]
    refine ⟨hM, by simp, ?_⟩
    intro a ha b hb e
    obtain ⟨y, hy, rfl⟩ := List.mem_map.1 ha
    simp only [List.map_cons, List.map_nil, List.mem_singleton] at hb
    exact Kl.look_none h hy (e.trans hb)
  · intro k
    rw [Kl.look_append, look_cons]
    by_cases hk : k = x.k
    · subst hk
      rw [h, if_pos rfl, if_pos rfl]
      rfl
    · rw [if_neg (Ne.symm hk), if_neg hk]
      show (Kl.look SyV.k M k).or none = _
      cases Kl.look SyV.k M k <;> rfl
set_option maxRecDepth 100000 in
set_option maxHeartbeats 8000000 in
theorem of_any {w : World} {sa : Option Addr} {sn sc : Nat} {sl : List SyV} (h : SlOk RSy SyOk w ⟨sa, sn, sc, sl⟩) : Calls Try.prog 21 #[.slice sa sn sc] w fun e w' => ∃ bm, e = .returned (.map (some bm)) ∧ SaidAt w' bm (firstsK SyV.k sl) ∧ w.heap.size ≤ bm ∧ Below w.heap.size w w' := by
  have HL := Lib.hid (show sn = sl.length from h.sl.len)
  have hmax : sn ≤ maxLen := h.sl.max
  have hal := (Below.refl w.heap.size w).alloc (Nat.le_refl _) (.map #[] 0)
  have m3 : MR.MapAt PN (w.alloc (.map #[] 0)) w.heap.size [] 0 := MR.mapAt_made PN (hnew _ _)
  have F := Lib.hid h
  have G := Lib.hid (And.intro (show SaidAt (w.alloc (.map #[] 0)) w.heap.size [] from ⟨_, _, m3, Kl.Lay.nil⟩) hal)
  clear h hal m3
  have hmm := @run_makeMap Try.prog
  go_enter Try.func21, Try.ntmps21
  go_wp2_with fail
  clear hmm
  generalize (w.alloc (.map #[] 0)) = W at *
  go_loopw [11] (fun iv wr => ∃ i : Nat, i ≤ sn ∧ iv = .int .i64 i ∧ SaidAt wr w.heap.size (firstsK SyV.k (sl.take i)) ∧ Below w.heap.size w wr) (fun iv _ => sn - (intOf iv).toNat)
  case atStart => exact ⟨0, Nat.zero_le _, rfl, G.out.1, G.out.2⟩
  case round =>
    obtain ⟨i, hi, rfl, hm, hb⟩ := hrel
    obtain ⟨w2, rfl⟩ : ∃ w2 : World, w2 = wr := ⟨_, rfl⟩
    by_cases hlt : i < sn
    · have hil : ((i : Int) < (sn : Int)) = True := by simp; omega
      have hw3 := wrapS hlt hmax
      have hlL : i < sl.length := by rw [← HL.out]; exact hlt
      have hsl := F.out.keepY hb
      obtain ⟨b, o, ea, hbb, hat⟩ := hsl.sl.at hlt
      dsimp only at ea
      subst ea
      have hok := F.out.all _ (getD_mem hlL)
      dsimp only at hat hok
      have hfs := firstsK_succ (key := SyV.k) hlL
      rw [show sl[i] = sl.getD i default by rw [List.getD_eq_getElem?_getD, List.getElem?_eq_getElem hlL, Option.getD_some]] at hfs
      generalize sl.getD i default = x at *
      obtain ⟨M, hM⟩ : ∃ M, firstsK SyV.k (sl.take i) = M := ⟨_, rfl⟩
      rw [hM] at hm hfs
      have H := Lib.hid (And.intro hm (And.intro hb (And.intro hok (And.intro hfs hlt))))
      have c0 := hat 0 (by decide)
      have c1 := hat 1 (by decide)
      have c2 := hat 2 (by decide)
      have c3 := hat 3 (by decide)
      have c4 := hat 4 (by decide)
      have c5 := hat 5 (by decide)
      have c6 := hat 6 (by decide)
      have c7 := hat 7 (by decide)
      simp only [RSy, Nat.add_zero, List.getElem?_cons_zero, List.getElem?_cons_succ] at c0 c1 c2 c3 c4 c5 c6 c7
      clear hm hb hok hfs hat hsl hbb hM hlL hi
      go_wp2_with (with_reducible refine halt_store 35 (x := .tmp 5) rfl ?_)
      refine Halted.go ?_
      have hal := (Below.refl w2.heap.size w2).alloc (Nat.le_refl _) (.cells #[.int .u32 0, .int .i64 0, .int .i64 0, .slice none 0 0, .int .u32 0, .int .i64 0, .int .i64 0, .slice none 0 0] 35)
      refine store_whole rfl 35 _ _ rfl w2.heap.size #[.int .u32 (x.k.1 : Int), .int .i64 x.k.2, .int .i64 x.a.o, .slice x.a.p.a x.a.p.n x.a.p.c, .int .u32 x.a.nx, .int .i64 x.a.md, .int .i64 x.a.pf, .slice x.a.c.a x.a.c.n x.a.c.c] rfl rfl (hnew _ _) rfl (by kernel_rfl) (by simp [Value.oneCell']) ?_
      intro W1 hwz hsz
      have hzb : Below w2.heap.size w2 W1 := Below.trans hal (hsz.below (Nat.le_refl _))
      have hx1 : BxY w2.heap.size x W1 := hwz
      have H1 := Lib.hid (And.intro hzb (And.intro hx1 (H.out.1.keep hzb)))
      have hlk := H1.out.2.2.lookup (PN_ok H.out.2.2.1) W1 rfl
      clear hwz hsz hal hzb hx1 c0 c1 c2 c3 c4 c5 c6 c7
      obtain ⟨q5, hq5⟩ : ∃ q5, w2.heap.size = q5 := ⟨_, rfl⟩
      have H0 := Lib.hid (bcall H.out.2.1 (Nat.le_refl _) H1.out.1)
      rw [hq5] at H1
      rw [hq5]
      clear hq5
      obtain ⟨c0, c1, c2, c3, c4, c5, c6, c7⟩ := H1.out.2.1.cells
      obtain ⟨hs, hhs⟩ : ∃ b, hasY M x.k = b := ⟨_, rfl⟩
      obtain ⟨ga, hga⟩ : ∃ g, getA M x.k = g := ⟨_, rfl⟩
      rw [hhs, hga] at hlk
      have HS := Lib.hid hhs
      clear hhs hga
      go_wp2_with (with_reducible refine halt_store 26 (x := .tmp 6) rfl ?_)
      refine Halted.go ?_
      have hal := (Below.refl W1.heap.size W1).alloc (Nat.le_refl _) (.cells #[.int .i64 0, .slice none 0 0, .int .u32 0, .int .i64 0, .int .i64 0, .slice none 0 0] 26)
      refine store_whole rfl 26 _ _ rfl W1.heap.size #[.int .i64 ga.o, .slice ga.p.a ga.p.n ga.p.c, .int .u32 ga.nx, .int .i64 ga.md, .int .i64 ga.pf, .slice ga.c.a ga.c.n ga.c.c] rfl rfl (hnew _ _) rfl (by kernel_rfl) (by simp [Value.oneCell']) ?_
      intro W2 hwz hsz
      have hzb : Below W1.heap.size W1 W2 := Below.trans hal (hsz.below (Nat.le_refl _))
      have H2 := Lib.hid (And.intro (bcall H0.out (Nat.le_refl _) hzb) (And.intro (H1.out.2.1.keep hzb) (H1.out.2.2.keep hzb)))
      clear hwz hsz hal hzb hlk c0 c1 c2 c3 c4 c5 c6 c7
      obtain ⟨c0, c1, c2, c3, c4, c5, c6, c7⟩ := H2.out.2.1.cells
      cases hs with
      | true =>
        have hfin := H2.out.2.2
        have hfs := H.out.2.2.2.1
        rw [if_pos (show (Kl.look SyV.k M x.k).isSome = true from HS.out)] at hfs
        rw [← hfs] at hfin
        have HF := Lib.hid hfin
        have hlt := H.out.2.2.2.2
        clear hfin hfs
        go_wp2_with fail
        exact ⟨⟨i + 1, hlt, by first | rw [hw3] | rw [Int.natCast_succ], HF.out, H2.out.1⟩, by first | (rw [hw3]; exact mSucc hlt) | (rw [← Int.natCast_succ]; exact mSucc hlt)⟩
      | false =>
        have hfs := H.out.2.2.2.1
        have hno : Kl.look SyV.k M x.k = none := by
          have := HS.out
          unfold hasY at this
          cases hq : Kl.look SyV.k M x.k with
          | none => rfl
          | some y => rw [hq] at this; cases this
        rw [hno, if_neg (by simp)] at hfs
        have hp := firsts_put H2.out.2.2.nd hno
        obtain ⟨O, hu, hfin⟩ := H2.out.2.2.put (L' := M ++ [x]) (PN_ok H.out.2.2.1) hp.1 hp.2
        rw [← hfs] at hfin
        have HF := Lib.hid hfin
        have hlt := H.out.2.2.2.2
        have HB := Lib.hid (below_setBlock (b := w.heap.size) (o := O) H2.out.1 (Nat.le_refl _))
        clear hfin hfs hno hp
        go_wp2_with fail
        exact ⟨⟨i + 1, hlt, by first | rw [hw3] | rw [Int.natCast_succ], HF.out, HB.out⟩, by first | (rw [hw3]; exact mSucc hlt) | (rw [← Int.natCast_succ]; exact mSucc hlt)⟩
    · obtain rfl : i = sn := by omega
      have hil : ((i : Int) < (i : Int)) = False := by simp
      have hm2 := hm
      rw [HL.out, List.take_length] at hm2
      have HB := Lib.hid (And.intro hm2 hb)
      clear hm hm2 hb
      go_wp2_with fail
      go_ret
      exact ⟨_, rfl, HB.out.1, Nat.le_refl _, HB.out.2⟩
end Go.Proofs.Ytadoflcomienoaa
/- slices.SortFunc of what is said, by the library's contract. -/
namespace Go.Proofs.Ytadoflcomienoaa
open Go.Shelf
def sortSy_ren : Go.Shelf.Ren := ⟨fun | 6 => 37 | 15 => 59 | 14 => 58 | 28 => 81 | 29 => 82 | 20 => 73 | 21 => 74 | 22 => 75 | 23 => 76 | 24 => 77 | 25 => 78 | 26 => 79 | 27 => 80 | 46 => 94 | 47 => 95 | 48 => 96 | 49 => 97 | 50 => 98 | 57 => 102 | n => n, fun | 22 => 30 | 24 => 35 | 25 => 85 | 3 => 3 | 39 => 31 | 0 => 0 | 53 => 23 | 55 => 128 | 4 => 4 | 46 => 120 | 45 => 119 | 50 => 124 | 5 => 5 | 9 => 9 | 66 => 142 | 70 => 146 | 76 => 152 | 77 => 153 | n => n, fun  | n => n⟩
theorem sortSy : SlLaysF0.n6 Try.prog sortSy_ren := {
  mixed := by kernel_rfl
  f6 := ⟨Try.f37.name, by decide, Try.func37.trans (congrArg some (by kernel_rfl))⟩
  f14 := ⟨Try.f58.name, by decide, Try.func58.trans (congrArg some (by kernel_rfl))⟩
  f15 := Try.func59.trans (congrArg some (by kernel_rfl))
  f20 := ⟨Try.f73.name, by decide, Try.func73.trans (congrArg some (by kernel_rfl))⟩
  f21 := ⟨Try.f74.name, by decide, Try.func74.trans (congrArg some (by kernel_rfl))⟩
  f22 := ⟨Try.f75.name, by decide, Try.func75.trans (congrArg some (by kernel_rfl))⟩
  f23 := ⟨Try.f76.name, by decide, Try.func76.trans (congrArg some (by kernel_rfl))⟩
  f24 := ⟨Try.f77.name, by decide, Try.func77.trans (congrArg some (by kernel_rfl))⟩
  f25 := ⟨Try.f78.name, by decide, Try.func78.trans (congrArg some (by kernel_rfl))⟩
  f26 := ⟨Try.f79.name, by decide, Try.func79.trans (congrArg some (by kernel_rfl))⟩
  f27 := ⟨Try.f80.name, by decide, Try.func80.trans (congrArg some (by kernel_rfl))⟩
  f28 := Try.func81.trans (congrArg some (by kernel_rfl))
  f29 := Try.func82.trans (congrArg some (by kernel_rfl))
  f46 := ⟨Try.f94.name, by decide, Try.func94.trans (congrArg some (by kernel_rfl))⟩
  f47 := Try.func95.trans (congrArg some (by kernel_rfl))
  f48 := Try.func96.trans (congrArg some (by kernel_rfl))
  f49 := ⟨Try.f97.name, by decide, Try.func97.trans (congrArg some (by kernel_rfl))⟩
  f50 := ⟨Try.f98.name, by decide, Try.func98.trans (congrArg some (by kernel_rfl))⟩
  f57 := ⟨Try.f102.name, by decide, Try.func102.trans (congrArg some (by kernel_rfl))⟩
  t0 := Try.underlying0
  a0 := Try.isAgg0
  z0 := Try.sizeOf0
  v0 := Try.zeroValue0
  t3 := Try.underlying3
  a3 := Try.isAgg3
  z3 := Try.sizeOf3
  v3 := Try.zeroValue3
  t4 := Try.underlying4
  a4 := Try.isAgg4
  z4 := Try.sizeOf4
  v4 := Try.zeroValue4
  t5 := Try.underlying5
  a5 := Try.isAgg5
  z5 := Try.sizeOf5
  v5 := Try.zeroValue5
  t9 := Try.underlying9
  a9 := Try.isAgg9
  z9 := Try.sizeOf9
  v9 := Try.zeroValue9
  t22 := Try.underlying30
  a22 := Try.isAgg30
  z22 := Try.sizeOf30
  v22 := Try.zeroValue30
  t25 := Try.underlying85
  a25 := Try.isAgg85
  z25 := Try.sizeOf85
  v25 := Try.zeroValue85
  t39 := Try.underlying31
  a39 := Try.isAgg31
  z39 := Try.sizeOf31
  v39 := Try.zeroValue31
  t45 := Try.underlying119
  a45 := Try.isAgg119
  z45 := Try.sizeOf119
  v45 := Try.zeroValue119
  t46 := Try.underlying120
  a46 := Try.isAgg120
  z46 := Try.sizeOf120
  v46 := Try.zeroValue120
  t50 := Try.underlying124
  a50 := Try.isAgg124
  z50 := Try.sizeOf124
  v50 := Try.zeroValue124
  t53 := Try.underlying23
  a53 := Try.isAgg23
  z53 := Try.sizeOf23
  v53 := Try.zeroValue23
  t55 := Try.underlying128
  a55 := Try.isAgg128
  z55 := Try.sizeOf128
  v55 := Try.zeroValue128
  t66 := Try.underlying142
  a66 := Try.isAgg142
  z66 := Try.sizeOf142
  v66 := Try.zeroValue142
  t70 := Try.underlying146
  a70 := Try.isAgg146
  z70 := Try.sizeOf146
  v70 := Try.zeroValue146
  t76 := Try.underlying152
  a76 := Try.isAgg152
  z76 := Try.sizeOf152
  v76 := Try.zeroValue152
  t77 := Try.underlying153
  a77 := Try.isAgg153
  z77 := Try.sizeOf153
  v77 := Try.zeroValue153 }
end Go.Proofs.Ytadoflcomienoaa
/- slices.SortFunc of an owned slice of structs. -/
namespace Go.Proofs.Ytadoflcomienoaa
open Go.Shelf Go.RowKit Go.Lib Go.Sort
namespace Rep
variable {α : Type} [Inhabited α] {R : Rep α}
/-- no later one is less than an earlier one -/
def SortedBy (cf : α → α → Int) (M : List α) : Prop := ∀ i j, i < j → j < M.length → 0 ≤ cf (M.getD j default) (M.getD i default)
theorem getB (M : List α) (i : Nat) : M.toArray[i]! = M.getD i default := by
  rw [getElem!_def]
  simp [List.getD_eq_getElem?_getD]
  cases M[i]? <;> rfl
theorem flatK_list (M : List α) : (flatK R.cells R.k M.toArray).toList = R.flat M := by
  have hp := R.pos
  apply List.ext_getElem?
  intro t
  by_cases ht : t < M.length * R.k
  · have hi : t / R.k < M.length := Nat.div_lt_of_lt_mul (by rw [Nat.mul_comm]; exact ht)
    have hj : t % R.k < R.k := Nat.mod_lt _ hp
    have he : t / R.k * R.k + t % R.k = t := by rw [Nat.mul_comm]; exact Nat.div_add_mod t R.k
    have h1 := get_flatK R.cells R.k M.toArray t (by simpa using ht)
    rw [show M.toArray[t / R.k]! = M.getD (t / R.k) default from getB M _] at h1
    have h2 := R.flat_get M (t / R.k) (t % R.k) hi hj
    rw [he] at h2
    rw [h2, Array.getElem?_toList]
    have hs : t < (flatK R.cells R.k M.toArray).size := by simpa using ht
    rw [getElem!_pos _ t hs] at h1
    rw [Array.getElem?_eq_getElem hs, h1]
    have hl : t % R.k < (R.cells (M.getD (t / R.k) default)).length := by rw [R.len]; exact hj
    rw [List.getElem?_eq_getElem hl, getElem!_pos (R.cells (M.getD (t / R.k) default)) (t % R.k) hl]
  · rw [List.getElem?_eq_none (by simp; omega), List.getElem?_eq_none (by rw [R.flat_length]; omega)]
theorem holds_own {w : World} {base g cap : Nat} {L : List α} (h : R.Own w base (.slice (some ⟨g, 0, none⟩) L.length cap) L) : HoldsK R.cells R.k w g 0 L.toArray := by
  intro j hj
  rcases h.2 with ⟨h2, _⟩ | ⟨g', cap', cur, hv, hg, hh, h3, h4, h5, h6⟩
  · cases h2
  · simp only [Value.slice.injEq, Option.some.injEq, Addr.mk.injEq, and_true, true_and] at hv
    obtain ⟨rfl, rfl⟩ := hv
    have hj' : j < L.length * R.k := by simpa using hj
    refine ⟨?_, free_of hh⟩
    rw [Nat.zero_add, getElem!_pos _ j hj]
    refine cell_of hh ?_
    have h7 : (flatK R.cells R.k L.toArray).toList[j]? = some (flatK R.cells R.k L.toArray)[j] := by rw [Array.getElem?_toList]; exact Array.getElem?_eq_getElem hj
    rw [flatK_list, ← h6, List.getElem?_take, if_pos hj', Array.getElem?_toList] at h7
    exact h7
theorem own_sorted {w : World} {base g cap n : Nat} {L M : List α} {os : Array Obj} (h : R.Own w base (.slice (some ⟨g, 0, none⟩) L.length cap) L) (hl : M.length = L.length) :
    R.Own (sortWorldK R.cells R.k w g 0 n M.toArray os) base (.slice (some ⟨g, 0, none⟩) L.length cap) M ∧ But w (sortWorldK R.cells R.k w g 0 n M.toArray os) [g] ∧ base ≤ g := by
  rcases h.2 with ⟨h2, _⟩ | ⟨g', cap', cur, hv, hg, hh, h3, h4, h5, h6⟩
  · cases h2
  · simp only [Value.slice.injEq, Option.some.injEq, Addr.mk.injEq, and_true, true_and] at hv
    obtain ⟨rfl, rfl⟩ := hv
    have hlt := lt_of_blk hh
    have hsz : ((putRowK R.cells R.k (Sort.ahead w n) g 0 M.toArray)).heap.size = w.heap.size := by unfold putRowK; rw [size_putRow]; rfl
    have hblk : ∀ k, k < w.heap.size → (sortWorldK R.cells R.k w g 0 n M.toArray os).heap[k]? = (putRowK R.cells R.k (Sort.ahead w n) g 0 M.toArray).heap[k]? := fun k hk => by
      show ((putRowK R.cells R.k (Sort.ahead w n) g 0 M.toArray).heap ++ os)[k]? = _
      rw [Array.getElem?_append_left (by omega)]
    have hput : ∀ k, (putRowK R.cells R.k (Sort.ahead w n) g 0 M.toArray).heap[k]? = if g = k then (w.heap[k]?).map (onCells (putCells id 0 (flatK R.cells R.k M.toArray))) else w.heap[k]? := fun k => by
      show (w.heap.modify g (onCells (putCells id 0 (flatK R.cells R.k M.toArray))))[k]? = _
      rw [Array.getElem?_modify]
    refine ⟨⟨by rw [R.flat_length, hl], .inr ⟨g, cap, putCells id 0 (flatK R.cells R.k M.toArray) cur, by rw [hl], hg, ?_, by rw [hl]; exact h3, h4, by simpa [putCells] using h5, ?_⟩⟩, ⟨rfl, rfl, rfl, ?_, fun k hk hn => ?_⟩, hg⟩
    · rw [hblk g hlt, hput, if_pos rfl, hh]
      rfl
    · rw [← flatK_list, hl]
      apply List.ext_getElem?
      intro q
      rw [List.getElem?_take]
      by_cases hq : q < L.length * R.k
      · rw [if_pos hq, Array.getElem?_toList, Array.getElem?_toList]
        have hq2 : q < (flatK R.cells R.k M.toArray).size := by simp [hl]; exact hq
        have hq3 : q < cur.size := by
          rw [h5]
          exact Nat.lt_of_lt_of_le hq (Nat.mul_le_mul_right _ h3)
        simp only [putCells, Array.getElem?_mapIdx, Array.getElem?_eq_getElem hq3, Option.map_some]
        rw [if_pos ⟨Nat.zero_le _, by omega⟩, Array.getElem?_eq_getElem hq2, getElem!_pos _ _ (by simpa using hq2)]
        simp
      · rw [if_neg hq, Array.getElem?_toList, Array.getElem?_eq_none (by simp [hl]; omega)]
    · show w.heap.size ≤ ((putRowK R.cells R.k (Sort.ahead w n) g 0 M.toArray).heap ++ os).size
      rw [Array.size_append, hsz]; omega
    · rw [hblk k hk, hput, if_neg (by simp at hn; omega)]
theorem sort_own {P : Program} {ρ : Ren} (SL : SlLaysF0.n6 P ρ) (aE : ∀ w, (isAgg (ρ.t 24)).run P w = .ok true w) (zE : ∀ w, (Go.sizeOf (ρ.t 24)).run P w = .ok R.k w) (cf : α → α → Int) (hO : SWO (ltOf cf)) (f : Nat) (cb : Array Value)
    (eg : ∀ args w, (callFunc f args).run P w = .ok (.enter f args) w) {w : World} {base : Nat} {v : Value} {L : List α} (hown : R.Own w base v L) (hcmp : ∀ g, CmpLays P f cb R.cells R.k cf g 0 L.length w) (hsz : L.length < 4611686018427387904) (hbase : base ≤ w.heap.size) :
    Calls P (ρ.f 6) #[v, .func (.func f) #[] cb] w fun e w' => e = .returned (.tuple #[]) ∧ ∃ M, M.Perm L ∧ SortedBy cf M ∧ R.Own w' base v M ∧ Below base w w' := by
  rcases hown.cases with ⟨rfl, rfl⟩ | ⟨g, cap, rfl, hg, hl, -⟩
  · exact (AnyF.slices_SortFunc_none SL none 0 (.func (.func f) #[] cb) w).mono fun e w' ⟨h1, h2⟩ => ⟨h1, [], List.Perm.refl _, fun i j _ hj => absurd hj (by simp), h2 ▸ hown, h2 ▸ Below.refl _ _⟩
  · have h := AnyQ.slices_SortFunc SL R.k aE zE R.cells R.len (fun x u hu => List.all_eq_true.1 (R.one x) u hu) cf hO f cb g 0 cap L.toArray w eg (by simpa using hcmp g) (holds_own hown) hl (by simpa using hsz)
    rw [List.size_toArray] at h
    refine h.mono fun e w' ⟨h1, d', n, os, hp, hs, hw⟩ => ⟨h1, d'.toList, ?_, ?_, ?_⟩
    · have := hp.2.2
      have h0 : d'.size = L.length := by simpa using hp.1
      simp only [Array.toList_extract, List.extract_eq_take_drop, Nat.sub_zero, List.drop_zero] at this
      rwa [List.take_of_length_le (by simp [h0]), List.take_of_length_le (by simp)] at this
    · intro i j hij hj
      have h0 : d'.size = L.length := by simpa using hp.1
      have := hs i j (Nat.zero_le _) hij (by simpa [h0] using hj)
      unfold ltOf at this
      have e1 := getB d'.toList i
      have e2 := getB d'.toList j
      rw [← e1, ← e2]
      simp only [Array.toArray_toList]
      simpa using this
    · have h0 : d'.toList.length = L.length := by simpa using hp.1
      have := own_sorted (n := n) (os := os) hown h0
      simp only [Array.toArray_toList] at this
      rw [← hw] at this
      exact ⟨this.1, this.2.1.below hbase (by simpa using this.2.2)⟩
end Rep
end Go.Proofs.Ytadoflcomienoaa
/- What is said, in order. -/
namespace Go.Proofs.Ytadoflcomienoaa
open Go.RowKit
open Go.ChangeMaps (setBlock)

def cmpY (x y : SyV) : Int := cmpK x.k y.k
theorem swoY : Go.Sort.SWO (Go.Proofs.ltOf cmpY) := by
  have h : ∀ x y : SyV, Go.Proofs.ltOf cmpY x y = ltB SyV.k x y := by
    intro x y
    unfold Go.Proofs.ltOf cmpY ltB
    have := @cmpK_lt x.k y.k
    cases hh : ltK x.k y.k with
    | true => rw [hh] at this; simpa using this
    | false => rw [hh] at this; simpa using this
  refine ⟨fun x => by rw [h]; exact ltK_irr _, fun x y z h1 h2 => by rw [h] at *; exact ltK_trans h1 h2, fun x y z h1 h2 => ?_⟩
  rw [h] at *
  unfold ltB at *
  rw [Bool.eq_false_iff] at *
  rw [ne_eq, ltK_iff] at *
  omega
set_option maxRecDepth 100000 in
set_option maxHeartbeats 1000000 in
theorem cmpY_lays (g n : Nat) (w : World) : Go.Proofs.CmpLays Try.prog 38 #[] RSy.cells RSy.k cmpY g 0 n w := by
  intro m os dk _ x y
  generalize Go.Proofs.sortWorldK RSy.cells RSy.k w g 0 m dk os = W
  show Calls Try.prog 38 #[.agg #[.int .u32 (x.k.1 : Int), .int .i64 x.k.2, .int .i64 x.a.o, .slice x.a.p.a x.a.p.n x.a.p.c, .int .u32 x.a.nx, .int .i64 x.a.md, .int .i64 x.a.pf, .slice x.a.c.a x.a.c.n x.a.c.c], .agg #[.int .u32 (y.k.1 : Int), .int .i64 y.k.2, .int .i64 y.a.o, .slice y.a.p.a y.a.p.n y.a.p.c, .int .u32 y.a.nx, .int .i64 y.a.md, .int .i64 y.a.pf, .slice y.a.c.a y.a.c.n y.a.c.c]] W fun e w' => e = .returned (.int .i64 (cmpY x y)) ∧ Grows W w'
  have hg := ((Grows.refl W).alloc (.cells #[.int .u32 (x.k.1 : Int), .int .i64 x.k.2, .int .i64 x.a.o, .slice x.a.p.a x.a.p.n x.a.p.c, .int .u32 x.a.nx, .int .i64 x.a.md, .int .i64 x.a.pf, .slice x.a.c.a x.a.c.n x.a.c.c] 35)).alloc (.cells #[.int .u32 (y.k.1 : Int), .int .i64 y.k.2, .int .i64 y.a.o, .slice y.a.p.a y.a.p.n y.a.p.c, .int .u32 y.a.nx, .int .i64 y.a.md, .int .i64 y.a.pf, .slice y.a.c.a y.a.c.n y.a.c.c] 35)
  have hx : BxY W.heap.size x ((W.alloc (.cells #[.int .u32 (x.k.1 : Int), .int .i64 x.k.2, .int .i64 x.a.o, .slice x.a.p.a x.a.p.n x.a.p.c, .int .u32 x.a.nx, .int .i64 x.a.md, .int .i64 x.a.pf, .slice x.a.c.a x.a.c.n x.a.c.c] 35)).alloc (.cells #[.int .u32 (y.k.1 : Int), .int .i64 y.k.2, .int .i64 y.a.o, .slice y.a.p.a y.a.p.n y.a.p.c, .int .u32 y.a.nx, .int .i64 y.a.md, .int .i64 y.a.pf, .slice y.a.c.a y.a.c.n y.a.c.c] 35)) := hold (hnew _ _)
  have hy : BxY (W.heap.size + 1) y ((W.alloc (.cells #[.int .u32 (x.k.1 : Int), .int .i64 x.k.2, .int .i64 x.a.o, .slice x.a.p.a x.a.p.n x.a.p.c, .int .u32 x.a.nx, .int .i64 x.a.md, .int .i64 x.a.pf, .slice x.a.c.a x.a.c.n x.a.c.c] 35)).alloc (.cells #[.int .u32 (y.k.1 : Int), .int .i64 y.k.2, .int .i64 y.a.o, .slice y.a.p.a y.a.p.n y.a.p.c, .int .u32 y.a.nx, .int .i64 y.a.md, .int .i64 y.a.pf, .slice y.a.c.a y.a.c.n y.a.c.c] 35)) := hnewAt (by simp)
  obtain ⟨x0, x1, x2, x3, x4, x5, x6, x7⟩ := hx.cells
  obtain ⟨y0, y1, y2, y3, y4, y5, y6, y7⟩ := hy.cells
  have HG := Lib.hid hg
  have HC := Lib.hid (acompare_any x.k y.k)
  unfold cmpY
  generalize cmpK x.k y.k = v at *
  unfold pfx at HC
  clear hg hx hy x2 x3 x4 x5 x6 x7 y2 y3 y4 y5 y6 y7
  go_enter Try.func38, Try.ntmps38
  go_wp2_with fail
  refine (HC.out _).mono ?_
  rintro e w1 ⟨rfl, hw1⟩
  have HG2 := Lib.hid (HG.out.trans hw1)
  clear hw1 x0 x1 y0 y1
  go_wp2_with fail
  go_ret
  exact ⟨rfl, HG2.out⟩
theorem sorted_ordY {M : List SyV} (h : Rep.SortedBy cmpY M) (hn : (M.map SyV.k).Nodup) : Kl.Ordered (ltB SyV.k) M := by
  unfold Kl.Ordered
  rw [List.pairwise_iff_getElem]
  intro i j hi hj hij
  have h1 := h i j hij hj
  simp only [List.getD_eq_getElem?_getD, List.getElem?_eq_getElem hi, List.getElem?_eq_getElem hj, Option.getD_some] at h1
  unfold cmpY at h1
  rw [cmpK_ge] at h1
  rw [List.nodup_iff_pairwise_ne, List.pairwise_iff_getElem] at hn
  have h2 := hn i j (by simpa using hi) (by simpa using hj) hij
  simp only [List.getElem_map] at h2
  unfold ltB
  rcases ltK_total M[i].k M[j].k with h | h | h
  · exact h
  · exact absurd h h2
  · rw [h] at h1; cases h1
theorem sorted_isY {L M : List SyV} (hL : (L.map SyV.k).Nodup) (hp : M.Perm L) (hs : Rep.SortedBy cmpY M) : M = sortK SyV.k L :=
  sortK_is hL (sorted_ordY hs ((hp.map SyV.k).symm.nodup hL)) hp
theorem enters_clY : Go.Proofs.Enters Try.prog 38 := Go.Proofs.enters_of Try.func38 (by decide) rfl
theorem Ran_len {κ : Type} {l done : List (MR.Ent κ)} {seen : Array Nat} (h : MR.Ran l seen done) (hb : (l.map (·.2.2)).Nodup) : done.length ≤ l.length ∧ seen.size = done.length := by
  refine ⟨?_, by have := congrArg List.length h.seen; simpa using this⟩
  have h1 : done.length ≤ (l.filter fun e => decide (e.2.2 ∈ done.map (·.2.2))).length := by
    have hp : done.Perm (l.filter fun e => decide (e.2.2 ∈ done.map (·.2.2))) := by
      rw [List.perm_ext_iff_of_nodup (MR.nodup_of_map h.nodup) ((MR.nodup_of_map hb).filter _)]
      intro e
      rw [List.mem_filter, decide_eq_true_eq]
      constructor
      · intro he; exact ⟨h.sub e he, List.mem_map.2 ⟨e, he, rfl⟩⟩
      · rintro ⟨h1, h2⟩
        obtain ⟨x, hx, hxe⟩ := List.mem_map.1 h2
        rw [← MR.inj_of_nodup hb (h.sub x hx) h1 hxe]
        exact hx
    exact Nat.le_of_eq hp.length_eq
  exact Nat.le_trans h1 (List.length_filter_le _ _)
set_option maxRecDepth 100000 in
set_option maxHeartbeats 4000000 in
theorem list_any {w : World} {bm : Nat} {L : List SyV} (H : SaidAt w bm L) (hlen : L.length ≤ 4611686) : Calls Try.prog 22 #[.map (some bm)] w fun e w' => ∃ v, e = .returned v ∧ RSy.Own w' w.heap.size v (sortK SyV.k L) ∧ Below w.heap.size w w' := by
  have hlt := H.lt
  obtain ⟨clk, es, k2, k3⟩ := H
  have hrg := MR.run_range PN k2 Try.underlying65
  have hal := (Below.refl w.heap.size w).alloc (Nat.le_refl _) (.mapIter (some bm) clk #[] clk)
  have hit : (w.alloc (.mapIter (some bm) clk #[] clk)).heap[w.heap.size]? = some (.mapIter (some bm) clk #[] clk) := hnew _ _
  have HF := Lib.hid (And.intro k2 (And.intro k3 hlt))
  have HLE := Lib.hid (show es.length ≤ 4611686 from by rw [k3.len]; exact hlen)
  have HW := Lib.hid (And.intro hal hit)
  clear k2 k3 hal hit hlt hlen
  go_enter Try.func22, Try.ntmps22
  go_wp2_with fail
  go_loopw [3] (fun ov wr => ∃ (done : List (MR.Ent PK)) (seen : Array Nat), RSy.Own wr (w.heap.size + 1) ov (done.map (Kl.ofE SyV.k L)) ∧ wr.heap[w.heap.size]? = some (.mapIter (some bm) clk seen clk) ∧ MR.Ran es seen done ∧ Below w.heap.size w wr ∧ w.heap.size + 1 ≤ wr.heap.size) (fun _ wr => es.length - seenN wr w.heap.size)
  case atStart => exact ⟨[], #[], Rep.Own.nil _ _, HW.out.2, MR.Ran.none _, HW.out.1, by simp⟩
  case round =>
    obtain ⟨done, seen, hown, hit, hran, hb, hsz⟩ := hrel
    obtain ⟨w2, rfl⟩ : ∃ w2 : World, w2 = wr := ⟨_, rfl⟩
    have hm2 : MR.MapAt PN w2 bm es clk := HF.out.1.blk_iff PN (hb.block _ HF.out.2.2)
    obtain ⟨hdl, hsd⟩ := Ran_len hran HF.out.1.bnodup
    rcases MR.next_step PN hm2 hit 0 with ⟨hall, hnx⟩ | ⟨e, hein, hens, w3, hnx, hset⟩
    · have hpe := ((hran.all HF.out.1.bnodup hall).map (Kl.ofE SyV.k L)).trans HF.out.2.1.perm
      obtain ⟨oa, cc, rfl, -, -⟩ := hown.sl0
      have hbs : w.heap.size + 1 ≤ w2.heap.size := hsz
      have hln : (done.map (Kl.ofE SyV.k L)).length < 4611686018427387904 := by
        rw [List.length_map]
        have := HLE.out
        omega
      have HS := Lib.hid (Rep.sort_own (R := RSy) sortSy Try.isAgg35 Try.sizeOf35 cmpY swoY 38 #[] enters_clY hown (fun g => cmpY_lays g _ _) hln hbs)
      have G := Lib.hid (And.intro hpe (And.intro hb HF.out.2.1.nd))
      generalize (done.map (Kl.ofE SyV.k L)).length = m at *
      clear hown hm2 hit hran hb hdl hsd hall hpe hln
      go_wp2_with fail
      refine HS.out.mono ?_
      rintro ev w9 ⟨rfl, M, hp, hs, hown9, hb9⟩
      have HE := Lib.hid (show RSy.Own w9 (w.heap.size + 1) (.slice oa m cc) (sortK SyV.k L) ∧ Below w.heap.size w w9 from by
        have := sorted_isY G.out.2.2 (hp.trans G.out.1) hs
        subst this
        exact ⟨hown9, G.out.2.1.trans (hb9.mono (Nat.le_succ _))⟩)
      clear hp hs hown9 hb9 HS G
      go_wp2_with fail
      go_ret
      exact ⟨_, rfl, HE.out.1.mono (Nat.le_succ _), HE.out.2⟩
    · have hm3 := hm2.blk_iff PN (hset.other (show bm ≠ w.heap.size from by have := HF.out.2.2; omega))
      have hen := MR.run_entry PN hm3 hein (hset.at hsz)
      have hent0 := HF.out.2.1.ent hein
      rw [hent0.2.1] at hnx hen
      rw [← hent0.2.2.1] at hen
      have hown3 := Rep.Own.but hown (But.of_set hset (bs := [w.heap.size]) (by simp)) (by simp)
      have hb3 : Below w.heap.size w w3 := hb.trans (hset.below (Nat.le_refl _))
      have hr3 := hran.more hein hens
      have hit3 := hset.at hsz
      have hs3 : w.heap.size + 1 ≤ w3.heap.size := by rw [hset.size]; exact hsz
      have hms : seenN w2 w.heap.size = seen.size := seenN_of hit
      have hdl3 := (Ran_len hr3 HF.out.1.bnodup)
      have hme : (done ++ [e]).map (Kl.ofE SyV.k L) = done.map (Kl.ofE SyV.k L) ++ [Kl.ofE SyV.k L e] := by rw [List.map_append]; rfl
      obtain ⟨oa, cc, rfl, -, -⟩ := hown.sl0
      obtain ⟨n, hn⟩ : ∃ n, (done.map (Kl.ofE SyV.k L)).length = n := ⟨_, rfl⟩
      have hnd : n = done.length := by rw [← hn, List.length_map]
      have HN := Lib.hid (And.intro hn hnd)
      rw [hn] at hown3 ⊢
      have HG := Lib.hid (And.intro hown3 (And.intro hr3 (And.intro hb3 (And.intro hs3 (And.intro hit3 (And.intro hme (And.intro hdl3 hms)))))))
      generalize Kl.ofE SyV.k L e = x at *
      have hke : PN.enc x.k = .agg #[.int .u32 (x.k.1 : Int), .int .i64 x.k.2] := rfl
      rw [hke] at hen
      obtain ⟨ke, hkv⟩ : ∃ v, PN.enc e.1 = v := ⟨_, rfl⟩
      try rw [hkv] at hnx
      unfold AtV.v at hnx hen
      clear hown hran hb hdl hsd hm2 hit hm3 hset hens hown3 hr3 hb3 hs3 hit3 hme hdl3 hein hent0 hms hn hnd hke hkv
      go_wp2_with (with_reducible refine halt_store 33 (x := .tmp 4) rfl ?_)
      refine Halted.go ?_
      have hal := ((Below.refl w3.heap.size w3).alloc (Nat.le_refl _) (.cells #[.int .u32 0, .int .i64 0] 33)).alloc (by simp) (.cells #[.int .i64 0, .slice none 0 0, .int .u32 0, .int .i64 0, .int .i64 0, .slice none 0 0] 26)
      have h4 : ((w3.alloc (.cells #[.int .u32 0, .int .i64 0] 33)).alloc (.cells #[.int .i64 0, .slice none 0 0, .int .u32 0, .int .i64 0, .int .i64 0, .slice none 0 0] 26)).heap[w3.heap.size]? = some (.cells #[.int .u32 0, .int .i64 0] 33) := hold (hnew _ _)
      have h5 : ((w3.alloc (.cells #[.int .u32 0, .int .i64 0] 33)).alloc (.cells #[.int .i64 0, .slice none 0 0, .int .u32 0, .int .i64 0, .int .i64 0, .slice none 0 0] 26)).heap[w3.heap.size + 1]? = some (.cells #[.int .i64 0, .slice none 0 0, .int .u32 0, .int .i64 0, .int .i64 0, .slice none 0 0] 26) := hnewAt (by simp)
      refine store_whole rfl 33 _ _ rfl w3.heap.size #[.int .u32 (x.k.1 : Int), .int .i64 x.k.2] rfl rfl h4 rfl (by kernel_rfl) (by simp [Value.oneCell']) ?_
      intro wy hwy hsy
      have h5' : wy.heap[w3.heap.size + 1]? = some (.cells #[.int .i64 0, .slice none 0 0, .int .u32 0, .int .i64 0, .int .i64 0, .slice none 0 0] 26) := (hsy.other (by omega)).trans h5
      have HY := Lib.hid (And.intro (hal.trans (hsy.below (Nat.le_refl _))) (And.intro hwy h5'))
      clear hal h4 h5 hwy hsy h5'
      go_wp2_with (with_reducible refine halt_store 26 (x := .tmp 5) rfl ?_)
      refine Halted.go ?_
      refine store_whole rfl 26 _ _ rfl (w3.heap.size + 1) #[.int .i64 x.a.o, .slice x.a.p.a x.a.p.n x.a.p.c, .int .u32 x.a.nx, .int .i64 x.a.md, .int .i64 x.a.pf, .slice x.a.c.a x.a.c.n x.a.c.c] rfl rfl HY.out.2.2 rfl (by kernel_rfl) (by simp [Value.oneCell']) ?_
      intro wz hwz hsz
      have hzb : Below w3.heap.size w3 wz := HY.out.1.trans (hsz.below (Nat.le_succ _))
      have hwy := (hsz.other (by omega)).trans HY.out.2.1
      have HZ := Lib.hid (And.intro (HG.out.1.below hzb) (And.intro (hzb.mono HG.out.2.2.2.1) (Nat.le_trans HG.out.2.2.2.1 hzb.size)))
      have z0 := cell_of (o := 0) hwy rfl
      have z1 := cell_of (o := 1) hwy rfl
      have a0 := cell_of (o := 0) hwz rfl
      have a1 := cell_of (o := 1) hwz rfl
      have a2 := cell_of (o := 2) hwz rfl
      have a3 := cell_of (o := 3) hwz rfl
      have a4 := cell_of (o := 4) hwz rfl
      have a5 := cell_of (o := 5) hwz rfl
      clear hwz hsz hzb hwy HY hen hnx
      go_wp2_with (at_builtin; refine halt ?_)
      refine Halted.go ?_
      clear z0 z1 a0 a1 a2 a3 a4 a5
      have hn2 : n ≤ 4611686 := by
        have h1 := HG.out.2.2.2.2.2.2.1.1
        have h3 := HLE.out
        have h4 := HN.out.2
        rw [List.length_append] at h1
        omega
      have hal := (Below.refl wz.heap.size wz).alloc (Nat.le_refl _) (.cells #[.int .u32 (x.k.1 : Int), .int .i64 x.k.2, .int .i64 x.a.o, .slice x.a.p.a x.a.p.n x.a.p.c, .int .u32 x.a.nx, .int .i64 x.a.md, .int .i64 x.a.pf, .slice x.a.c.a x.a.c.n x.a.c.c] 35)
      refine Rep.append_list TSy rfl _ _ rfl rfl (HZ.out.1.below hal) rfl (Rep.sl_one (R := RSy) (y := x) (hnew _ _)) (fun h => by cases h) (by rw [HN.out.1]; unfold maxLen; omega) (by rw [HN.out.1]; omega) (Nat.le_trans HZ.out.2.2 hal.size) ?_
      intro v6 w6 hown6 hb6 _
      obtain ⟨o6, c6, rfl, -, -⟩ := hown6.sl0
      obtain ⟨k1, hk1⟩ : ∃ k1, (done.map (Kl.ofE SyV.k L) ++ [x]).length = k1 := ⟨_, rfl⟩
      rw [hk1] at hown6 ⊢
      clear hk1
      have hbz : Below (w.heap.size + 1) w3 w6 := HZ.out.2.1.trans ((hal.mono HZ.out.2.2).trans hb6)
      have HK := Lib.hid (And.intro hown6 (And.intro hbz (Nat.le_trans HZ.out.2.2 (Nat.le_trans hal.size hb6.size))))
      clear hown6 hb6 hbz hal hn2
      go_wp2_with fail
      obtain ⟨g1, g2, g3, g4, g5, g6, g7, g8⟩ := HG.out
      refine ⟨⟨done ++ [e], seen.push e.2.2, ?_, (HK.out.2.1.block _ (Nat.lt_succ_self _)).trans g5, g2, g3.trans (HK.out.2.1.mono (Nat.le_succ _)), HK.out.2.2⟩, ?_⟩
      · rw [g6]; exact HK.out.1
      · have h5 : seenN w6 w.heap.size = (seen.push e.2.2).size := seenN_of ((HK.out.2.1.block _ (Nat.lt_succ_self _)).trans g5)
        have h6 := g7.2
        have h7 := g7.1
        rw [h5, g8]
        rw [Array.size_push] at h6 ⊢
        omega
end Go.Proofs.Ytadoflcomienoaa
/- Updates of prefixes that go, as the program tells. -/
namespace Go.Proofs.Ytadoflcomienoaa
open Go.RowKit

theorem Rep.Sl.none_zero {α : Type} [Inhabited α] {R : Rep α} {w : World} {a : Option Addr} {n c : Nat} {L : List α} (h : R.Sl w a n c L) (e : a = none) : n = 0 := by
  rcases Nat.eq_zero_or_pos n with h0 | h0
  · exact h0
  · obtain ⟨b, o, e2, -⟩ := h.row h0
    rw [e] at e2; cases e2
set_option maxRecDepth 100000 in
set_option maxHeartbeats 8000000 in
theorem dgone_any {w : World} {sa : Option Addr} {sn sc : Nat} {sl : List Nl} (h : SlOk RNl NlOk w ⟨sa, sn, sc, sl⟩) (hL : ∀ n ∈ sl, okN false n = true) (hmx : sn ≤ 4611686) (four : Bool) : Calls Try.prog 24 #[.slice sa sn sc, .bool four] w fun e w' => ∃ v M, e = .returned v ∧ OwnP RUp UpOk w' w.heap.size v M ∧ M.map UpV.up = goneI szN sl ∧ Below w.heap.size w w' := by
  have HH := Lib.hid hmx
  have hG0 : GnS sn sl [] sl := ⟨hL, rfl, by rw [List.length_nil, Nat.zero_add]; exact Nat.le_of_eq h.sl.len.symm⟩
  have HG0 := Lib.hid (And.intro hG0 h)
  clear h hL hG0 hmx
  go_enter Try.func24, Try.ntmps24
  go_wp2_with fail
  go_loopw [0, 5] (fun lv ov wr => ∃ (l : SlV Nl) (M : List UpV), lv = .slice l.a l.n l.c ∧ SlOk RNl NlOk w l ∧ GnS sn sl M l.l ∧ OwnP RUp UpOk wr w.heap.size ov M ∧ Below w.heap.size w wr) (fun lv _ _ => lenV lv)
  case atStart => exact ⟨⟨sa, sn, sc, sl⟩, [], rfl, HG0.out.2, HG0.out.1, OwnP.nil, Below.refl _ _⟩
  case round =>
    obtain ⟨⟨la, ln, lc, ll⟩, M, rfl, hs, hg, hown, hb⟩ := hrel
    dsimp only at *
    obtain ⟨w2, rfl⟩ : ∃ w2 : World, w2 = wr := ⟨_, rfl⟩
    obtain ⟨oc, cc, rfl, -, -⟩ := hown.own.sl0
    have hln : ln = ll.length := hs.sl.len
    have hmax : ln ≤ maxLen := hs.sl.max
    have hlc : ln ≤ lc := hs.nc
    by_cases h0 : 0 < ln
    · have hil : (0 < ln) = True := eq_true h0
      have hne : ll ≠ [] := fun e => by rw [e, List.length_nil] at hln; omega
      have G := Lib.hid (And.intro hs (And.intro hg (And.intro hown (And.intro hb (And.intro hne hln)))))
      have HLN := Lib.hid hln
      generalize M.length = m at *
      clear hs hg hown hb hne hln h0
      go_wp2_with fail
      go_loopw [6] (fun iv wr => ∃ i : Nat, i ≤ ln ∧ iv = .int .i64 i ∧ (i ≤ 1024 ∧ (i < ln → i < 1024 → 4073 < szs szN (ll.take (i + 1)))) ∧ Below w2.heap.size w2 wr) (fun iv _ => (intOf iv).toNat)
      case atStart =>
        by_cases h1 : 1024 < ln
        · exact ⟨1024, by omega, by rw [Int.min_eq_right (by omega)]; rfl, ⟨Nat.le_refl _, fun _ h => absurd h (Nat.lt_irrefl _)⟩, Below.refl _ _⟩
        · exact ⟨ln, Nat.le_refl _, by rw [Int.min_eq_left (by omega)], ⟨by omega, fun h => absurd h (Nat.lt_irrefl _)⟩, Below.refl _ _⟩
      case round =>
        obtain ⟨i, hi, rfl, hr, hb⟩ := hrel
        obtain ⟨w4, rfl⟩ : ∃ w4 : World, w4 = wr := ⟨_, rfl⟩
        have hi0 : ((0 : Int) ≤ (i : Int)) = True := by simp
        have hic : ((i : Int) ≤ (lc : Int)) = True := by simp; omega
        have hbw : Below w.heap.size w w4 := bcall G.out.2.2.2.1 (Nat.le_refl _) hb
        obtain ⟨s1, hr1, hr2, hst, hsn, -⟩ := Rep.cut_to TNl (G.out.1.keepN hbw).sl hlc G.out.1.nil (i := i) hi
        have hU : UpOk w4 ⟨⟨s1, i, lc, ll.take i⟩, ⟨none, 0, 0, []⟩, atZV, false⟩ := ⟨⟨hst, hsn, Nat.le_trans hi hlc, G.out.1.cm, fun n hn => G.out.1.all n (List.mem_of_mem_take hn)⟩, slZ, atZ_ok _⟩
        have HC := Lib.hid (ucheck_any hU four)
        have hU2 : chkU four (UpV.up ⟨⟨s1, i, lc, ll.take i⟩, ⟨none, 0, 0, []⟩, atZV, false⟩) = (decide (i ≤ 1024) && decide (szs szN (ll.take i) ≤ 4073)) := by
          have := chkU_G (four := four) (L := ll.take i) (fun n hn => G.out.2.1.ok n (List.mem_of_mem_take hn))
          rw [List.length_take, Nat.min_eq_left (by rw [← HLN.out]; exact hi)] at this
          exact this
        rw [hU2] at HC
        obtain ⟨v, hv⟩ : ∃ b, (decide (i ≤ 1024) && decide (szs szN (ll.take i) ≤ 4073)) = b := ⟨_, rfl⟩
        rw [hv] at HC
        have HV := Lib.hid hv
        have HR := Lib.hid (And.intro hr hi)
        have HB := Lib.hid hb
        unfold UpV.v atZV at HC
        dsimp only at HC
        clear hv hU2 hU hst hsn hbw hb hr hi
        go_wp2_with fail
        refine (HC.out).mono ?_
        rintro e V2 ⟨rfl, hb2⟩
        have HB2 := Lib.hid (bcall HB.out (Nat.le_refl _) hb2)
        clear hr1 hr2 hi0 hb2 HC HB
        cases v
        · have hv := HV.out
          rw [Bool.and_eq_false_iff, decide_eq_false_iff_not, decide_eq_false_iff_not] at hv
          have hi1 : 1 ≤ i := by
            rcases Nat.eq_zero_or_pos i with h | h
            · rw [h] at hv; simp [szs] at hv
            · exact h
          have hw3 : wrap64 ((i : Int) - 1) = ((i - 1 : Nat) : Int) := by unfold maxLen at hmax; unfold wrap64; have := HR.out.2; omega
          have HE := Lib.hid (show i - 1 ≤ 1024 ∧ (i - 1 < ln → i - 1 < 1024 → 4073 < szs szN (ll.take (i - 1 + 1))) from ⟨by have := HR.out.1.1; omega, fun _ _ => by
            rw [Nat.sub_add_cancel hi1]
            have := HR.out.1.1
            rcases hv with h | h <;> omega⟩)
          have H1 := Lib.hid hi1
          have e70 : (errI false 70 : Int) = 70 := rfl
          clear hv hi1 hic
          go_wp2_with fail
          exact ⟨⟨i - 1, by have := HR.out.2; omega, by rw [hw3], HE.out, HB2.out⟩, by rw [hw3]; show ((i - 1 : Nat) : Int).toNat < (i : Int).toNat; have := H1.out; omega⟩
        · have e70 : (errI true 70 : Int) = 0 := rfl
          have hv := HV.out
          rw [Bool.and_eq_true, decide_eq_true_eq, decide_eq_true_eq] at hv
          have hres : fitI szN 4073 1024 ll = i := fitI_is (by rw [← HLN.out]; exact HR.out.2) hv.1 hv.2 (by rw [← HLN.out]; exact HR.out.1.2)
          clear hv hic
          have hin : i ≤ ln := HR.out.2
          have hi0 : ((0 : Int) ≤ (i : Int)) = True := by simp
          have hi2 : ((i : Int) ≤ (lc : Int)) = True := eq_true (by omega)
          have hi3 : ((i : Int) ≤ (ln : Int)) = True := eq_true (by omega)
          have HX := Lib.hid hres
          have H1 := Lib.hid (show 1 ≤ i by rw [← hres]; exact fitG_pos G.out.2.1.ok G.out.2.2.2.2.1)
          have hbw : Below w.heap.size w V2 := bcall G.out.2.2.2.1 (Nat.le_refl _) HB2.out
          obtain ⟨s1, hr1, hr2, hst⟩ := Rep.cut_kk TNl G.out.1.sl hlc (i := i) hin
          obtain ⟨s2, hq1, hq2, hsf, hsfn, -⟩ := Rep.cut_from TNl G.out.1.sl hlc G.out.1.nil (i := i) hin
          obtain ⟨dn, hdn⟩ : ∃ dn, ln - i = dn := ⟨_, rfl⟩
          rw [hdn] at hq1 hq2 hsf
          have HDN := Lib.hid hdn
          have HS2 := Lib.hid (show SlOk RNl NlOk w ⟨s2, dn, lc - i, ll.drop i⟩ from ⟨hsf, hsfn, by show dn ≤ lc - i; omega, by have := G.out.1.cm; show lc - i ≤ _; dsimp only at this; omega, fun n hn => G.out.1.all n (List.mem_of_mem_drop hn)⟩)
          have HS1 := Lib.hid (show SlOk RNl NlOk w ⟨s1, i, i, ll.take i⟩ from ⟨hst, fun e => hst.none_zero e, Nat.le_refl _, Nat.le_trans hin hmax, fun n hn => G.out.1.all n (List.mem_of_mem_take hn)⟩)
          clear hdn hres hst hsf hsfn
          go_wp2_with (at_builtin; refine halt ?_)
          refine Halted.go ?_
          clear hr1 hr2
          have hal := (Below.refl V2.heap.size V2).alloc (Nat.le_refl _) (.cells #[.slice s1 i i, .slice none 0 0, .int .i64 0, .slice none 0 0, .int .u32 0, .int .i64 0, .int .i64 0, .slice none 0 0, .bool false] 48)
          have hbA : Below w2.heap.size w2 (V2.alloc (.cells #[.slice s1 i i, .slice none 0 0, .int .i64 0, .slice none 0 0, .int .u32 0, .int .i64 0, .int .i64 0, .slice none 0 0, .bool false] 48)) := bcall HB2.out (Nat.le_refl _) hal
          refine Rep.append_listP TUp rfl _ _ rfl rfl (G.out.2.2.1.below hbA) rfl (Rep.sl_one (R := RUp) (y := (⟨⟨s1, i, i, ll.take i⟩, ⟨none, 0, 0, []⟩, atZV, false⟩ : UpV)) (hnew _ _)) (fun h => by cases h) (fun y hy => by
            rw [List.mem_singleton] at hy
            subst hy
            exact Firm.old (hbw.trans (hal.mono hbw.size)) (fun W hW => ⟨HS1.out.keepN hW, slZ, atZ_ok _⟩) (fun k hk => (World.ownsRow.lt G.out.2.2.1.own k hk).1)) (by have := G.out.2.1.len; have := HH.out; unfold maxLen; omega) (by have := G.out.2.1.len; have := HH.out; omega) (Nat.le_trans G.out.2.2.2.1.size hbA.size) ?_
          intro v10 V10 hown10 hb10
          have HO := Lib.hid (And.intro hown10 hb10)
          have HBB := Lib.hid (show Below w.heap.size w V10 from (bcall G.out.2.2.2.1 (Nat.le_refl _) hbA).trans hb10)
          have HGS := Lib.hid (G.out.2.1.step G.out.2.2.2.2.1 HX.out (x := (⟨⟨s1, i, i, ll.take i⟩, ⟨none, 0, 0, []⟩, atZV, false⟩ : UpV)) rfl)
          clear hown10 hb10 hal hbA hbw
          go_wp2_with fail
          exact ⟨⟨⟨s2, dn, lc - i, ll.drop i⟩, _, rfl, HS2.out, HGS.out, HO.out.1, HBB.out⟩, by show dn < ln; have := HDN.out; have := H1.out; omega⟩
    · obtain rfl : ln = 0 := by omega
      obtain rfl : ll = [] := List.length_eq_zero_iff.1 hln.symm
      have HE := Lib.hid (And.intro hown (And.intro (show M.map UpV.up = goneI szN sl from by rw [← hg.eq, show goneI szN ([] : List Nl) = [] from rfl, List.append_nil]) hb))
      generalize M.length = m at *
      clear hs hg hown hb hln hmax hlc h0
      go_wp2_with fail
      go_ret
      exact ⟨_, M, rfl, HE.out.1, HE.out.2⟩
end Go.Proofs.Ytadoflcomienoaa
/- A thing stored into an owned slice, in place. -/
namespace Go.Proofs.Ytadoflcomienoaa
open Go.RowKit
namespace Rep
variable {α : Type} [Inhabited α] {R : Rep α}
theorem getD_set (L : List α) (k i : Nat) (y : α) (hi : i < L.length) : (L.set k y).getD i default = if i = k then y else L.getD i default := by
  simp only [List.getD_eq_getElem?_getD, List.getElem?_set]
  by_cases e : k = i
  · subst e; simp [hi]
  · rw [if_neg e, if_neg (Ne.symm e)]
theorem flat_set_get (L : List α) (k q : Nat) (y : α) (hk : k < L.length) (hq : q < L.length * R.k) : (R.flat (L.set k y))[q]? = if k * R.k ≤ q ∧ q < k * R.k + R.k then (R.cells y)[q - k * R.k]? else (R.flat L)[q]? := by
  have hp := R.pos
  have hi : q / R.k < L.length := Nat.div_lt_of_lt_mul (by rw [Nat.mul_comm]; exact hq)
  have hj : q % R.k < R.k := Nat.mod_lt _ hp
  have he : q / R.k * R.k + q % R.k = q := by rw [Nat.mul_comm]; exact Nat.div_add_mod q R.k
  generalize q / R.k = i at *
  generalize q % R.k = j at *
  subst he
  rw [R.flat_get _ i j (by rw [List.length_set]; exact hi) hj, R.flat_get _ i j hi hj, getD_set L k i y hi]
  by_cases e : i = k
  · subst e
    rw [if_pos rfl, if_pos ⟨by omega, by omega⟩, show i * R.k + j - i * R.k = j by omega]
  · rw [if_neg e, if_neg]
    rintro ⟨h1, h2⟩
    rcases Nat.lt_or_gt_of_ne e with h | h
    · have := Nat.mul_le_mul_right R.k h; rw [Nat.succ_mul] at this; omega
    · have := Nat.mul_le_mul_right R.k h; rw [Nat.succ_mul] at this; omega
theorem own_set {w w' : World} {base g cap n : Nat} {L : List α} (h : R.Own w base (.slice (some ⟨g, 0, none⟩) n cap) L) {k : Nat} (hk : k < n) (y : α) {cur cur' : Array Value} (hc : w.heap[g]? = some (.cells cur R.T (0, 0))) (hset : w'.heap[g]? = some (.cells cur' R.T (0, 0)))
    (hsz : cur'.size = cur.size) (hcur : ∀ q, cur'[q]? = if k * R.k ≤ q ∧ q < k * R.k + R.k then (R.cells y)[q - k * R.k]? else cur[q]?) : R.Own w' base (.slice (some ⟨g, 0, none⟩) n cap) (L.set k y) := by
  obtain ⟨h1, h2⟩ := h
  rcases h2 with ⟨h2, _⟩ | ⟨g', cap', c0, hv, hg, hh, h3, h4, h5, h6⟩
  · cases h2
  · simp only [Value.slice.injEq, Option.some.injEq, Addr.mk.injEq, and_true] at hv
    obtain ⟨rfl, rfl, rfl⟩ := hv
    rw [hh] at hc
    simp only [Option.some.injEq, Obj.cells.injEq, and_true] at hc
    subst hc
    refine ⟨by rw [R.flat_length], .inr ⟨g, cap, cur', by rw [List.length_set], hg, hset, by rw [List.length_set]; exact h3, h4, by rw [hsz]; exact h5, ?_⟩⟩
    rw [List.length_set]
    apply List.ext_getElem?
    intro q
    rw [List.getElem?_take]
    by_cases hq : q < L.length * R.k
    · rw [if_pos hq, flat_set_get L k q y hk hq, Array.getElem?_toList, hcur]
      split
      · rfl
      · rw [← h6, List.getElem?_take, if_pos hq, Array.getElem?_toList]
    · rw [if_neg hq, List.getElem?_eq_none (by rw [R.flat_length, List.length_set]; omega)]
end Rep
end Go.Proofs.Ytadoflcomienoaa
