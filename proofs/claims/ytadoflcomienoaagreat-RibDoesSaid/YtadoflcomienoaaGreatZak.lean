/- Slices of the call's own whose elements hold slices themselves. -/
import Derived.Test.YtadoflcomienoaaGreatZaa
import Derived.Maps.AppendAt
import Derived.Test.YtadoflcomienoaaGreatZai
import Derived.Test.YtadoflcomienoaaGreatZaj
import Derived.Test.YtadoflcomienoaaGreatZad
import Derived.Test.YtadoflcomienoaaGreatZab
import Derived.Test.YtadoflcomienoaaGreatZah
import Derived.DeepKeys4
import Derived.Shelf.SlSortCmp.WholeK
import Derived.Shelf.SlSortCmp.NoneTotal
namespace Go.Proofs.YtadoflcomienoaaGreat
open Go.RowKit
/-- it holds whatever becomes of a block, and of new ones -/
def Firm (g : Option Nat) (w : World) (P : World → Prop) : Prop := ∀ w', w.grownBy w' g → P w'
theorem grown_of {w w' : World} (h : Below w.heap.size w w') (g : Option Nat) : w.grownBy w' g := ⟨h.os, h.tape, h.output, h.size, fun k hk _ => h.block k hk⟩
theorem grown_below {B : Nat} {w w' : World} {g : Option Nat} (h : w.grownBy w' g) (hB : B ≤ w.heap.size) (hg : ∀ k, g = some k → B ≤ k) : Below B w w' :=
  ⟨h.os, h.tape, h.output, h.size, fun k hk => h.block k (by omega) (fun e => by have := hg k e.symm; omega)⟩
section
variable {g g' : Option Nat} {w w1 : World} {P Q : World → Prop}
theorem Firm.now (h : Firm g w P) : P w := h w (World.grownBy.refl _ _)
theorem Firm.imp (h : Firm g w P) (hi : ∀ W, P W → Q W) : Firm g w Q := fun w' h' => hi _ (h w' h')
theorem Firm.turn (h : Firm g w P) (hb : w.grownBy w1 g) (hg : ∀ b, b < w.heap.size → g' = some b → g = some b) : Firm g' w1 P := fun w' h' =>
  h w' ⟨h'.os.trans hb.os, h'.tape.trans hb.tape, h'.output.trans hb.output, Nat.le_trans hb.size h'.size, fun b hlt hne => (h'.block b (Nat.lt_of_lt_of_le hlt hb.size) (fun e => hne (hg b hlt e.symm).symm)).trans (hb.block b hlt hne)⟩
theorem Firm.below (h : Firm g w P) (hb : Below w.heap.size w w1) : Firm g w1 P := h.turn (grown_of hb g) fun _ _ e => e
/-- things that a call found: they hold, whatever becomes of blocks of its own -/
theorem Firm.old {w0 : World} (hb : Below w0.heap.size w0 w) (hk : ∀ W, Below w0.heap.size w0 W → P W) (hg : ∀ k, g = some k → w0.heap.size ≤ k) : Firm g w P := fun w' h' =>
  hk w' (hb.trans (grown_below h' hb.size hg))
theorem Firm.sl {α : Type} [Inhabited α] {R : Rep α} {a : Option Addr} {n c : Nat} {L : List α} (h : R.Sl w a n c L) (hg : 0 < n → ∀ x, a = some x → some x.block ≠ g) : Firm g w fun W => R.Sl W a n c L := fun w' h' =>
  ⟨h.len, h.max, fun hn => by
    obtain ⟨b, o, e, r⟩ := h.row hn
    exact ⟨b, o, e, r.keep (h'.block b r.lt (hg hn _ e))⟩⟩
end
/-- a slice of the call's own; all of its elements hold, whatever becomes of it -/
structure OwnP {α : Type} [Inhabited α] (R : Rep α) (P : World → α → Prop) (w : World) (base : Nat) (v : Value) (L : List α) : Prop where
  own : R.Own w base v L
  el : ∀ x ∈ L, Firm v.ownBlock w fun W => P W x
section
variable {α : Type} [Inhabited α] {R : Rep α} {P : World → α → Prop} {w w' : World} {base : Nat} {v v' : Value} {L M : List α}
theorem OwnP.nil : OwnP R P w base (.slice none 0 0) [] := ⟨Rep.Own.nil _ _, fun _ h => by cases h⟩
theorem OwnP.below (h : OwnP R P w base v L) (hb : Below w.heap.size w w') : OwnP R P w' base v L := ⟨h.own.below hb, fun x hx => (h.el x hx).below hb⟩
theorem OwnP.mono {base' : Nat} (h : OwnP R P w base v L) (hb : base' ≤ base) : OwnP R P w base' v L := ⟨h.own.mono hb, h.el⟩
theorem OwnP.append (h : OwnP R P w base v L) (hown : R.Own w' base v' (L ++ M)) (hg : w.grownBy w' v.ownBlock) (hf : v'.ownBlock = v.ownBlock ∨ v'.ownBlock = some w.heap.size) (hM : ∀ x ∈ M, Firm v.ownBlock w fun W => P W x) : OwnP R P w' base v' (L ++ M) := by
  have hg' : ∀ b, b < w.heap.size → v'.ownBlock = some b → v.ownBlock = some b := by
    intro b hb e
    rcases hf with hf | hf
    · exact hf.symm.trans e
    · rw [hf] at e; injection e with e; omega
  refine ⟨hown, fun x hx => ?_⟩
  rcases List.mem_append.1 hx with hx | hx
  · exact (h.el x hx).turn hg hg'
  · exact (hM x hx).turn hg hg'
namespace Rep
variable {Pr : Program}
/-- where append lays its answer -/
theorem append_where {t ty : TypeId} {bytes : Nat} (hT : Ty Pr t R bytes) (hown : R.Own w base v L) {sa : Option Addr} {m c : Nat} (hM : R.Sl w sa m c M) (hc : sa = none → c = 0)
    (hmax : L.length + m ≤ maxLen) (hbytes : (L.length + m) * bytes ≤ 140737488355328) {u : Value} {wu : World} (hr : (Builtin.append_ #[t, t] ty #[v, .slice sa m c]).run Pr w = .ok u wu) : u.ownBlock = v.ownBlock ∨ u.ownBlock = some w.heap.size := by
  obtain ⟨i, z, h1, h2, h3, h4, h5⟩ := hT.hi
  have hsmall : L.length + m ≤ 9223372036854775807 := by simp only [maxLen] at hmax; omega
  cases sa with
  | none =>
    obtain rfl := hc rfl
    have hm : m = 0 := by
      rcases Nat.eq_zero_or_pos m with h0 | h0
      · exact h0
      · obtain ⟨b, o, e, _⟩ := hM.row h0; cases e
    subst hm
    rw [run_append_owned_none (w := w) base t ty R.T i R.k hT.ht h1 v L.length (R.flat L) hown] at hr
    injection hr with hr _
    exact .inl (by rw [hr])
  | some ad =>
    have hl : (R.flat M).length = m * i.size := by rw [R.flat_length, ← hM.len, h3]
    have hnews : ∀ j u, (R.flat M)[j]? = some u → w.cell? (ad.add j) = some u := by
      rcases Nat.eq_zero_or_pos m with h0 | h0
      · have hMe : M = [] := List.length_eq_zero_iff.1 (hM.len.symm.trans h0)
        subst hMe; intro j u hu; simp [flat] at hu
      · obtain ⟨b, o, e, hw9⟩ := hM.row h0
        cases e
        exact news_of_row hw9
    rcases hown.2 with ⟨rfl, h0⟩ | ⟨g, cap, cur, rfl, hbg, hg, hnc, hcm, hcs, htake⟩
    · rcases Nat.eq_zero_or_pos m with hm | hm
      · subst hm
        have : (Builtin.append_ #[t, t] ty #[.slice none 0 0, .slice (some ad) 0 c]).run Pr w = .ok (.slice none 0 0) w := by simp [Builtin.append_, run_underlying hT.ht, sizeOf, typeInfo, h1, Builtin.lenOf, Builtin.firstCells, loadCells, loadCellsFrom]
        rw [this] at hr
        injection hr with hr _
        exact .inl (by rw [← hr])
      · rw [run_append_nil (P := Pr) w t ty R.T i z hT.ht h1 h2 ad m c (R.flat M) hl hnews hm (by omega) (by rw [h4]; rw [h0] at hbytes; simp only [Nat.zero_add] at hbytes; omega)] at hr
        injection hr with hr _
        exact .inr (by rw [← hr]; rfl)
    · by_cases hroom : L.length + m ≤ cap
      · rw [run_append_room (P := Pr) w t ty R.T i hT.ht h1 g L.length cap cur hg ad m c (R.flat M) hl hnews (fun u hu => R.flat_cell1 M u hu) hroom (by rw [hl, hcs, h3, ← Nat.add_mul]; exact Nat.mul_le_mul_right _ hroom)] at hr
        injection hr with hr _
        exact .inl (by rw [← hr]; rfl)
      · have holds : ∀ j u, (R.flat L)[j]? = some u → w.cell? ((⟨g, 0, none⟩ : Addr).add j) = some u := World.ownsRow.cells (g := g) hown rfl
        rw [run_append_grow (P := Pr) w t ty R.T i z hT.ht h1 h2 ⟨g, 0, none⟩ L.length cap (R.flat L) (by rw [R.flat_length, h3]) holds ad m c (R.flat M) hl hnews (by omega) (by omega) (by rw [h4]; exact growslice_fits (by omega) hbytes)] at hr
        injection hr with hr _
        exact .inr (by rw [← hr]; rfl)
variable {ops : Array Oper} {rest : List Oper} {o : Oper} {a : Act} {Q : Exit → Act → World → Prop}
/-- append(v, l...): where the answer lies, what else stays -/
theorem append_listW {t : TypeId} {bytes : Nat} (hT : Ty Pr t R bytes) (hgd : o.guard = none) (s x : Operand) (ho : o.op = .call { callee := .builtin .append, args := #[s, x], argTypes := #[t, t] })
    (hs : a.eval s = v) (hown : R.Own w base v L) {sa : Option Addr} {m c : Nat} (hx : a.eval x = .slice sa m c) (hM : R.Sl w sa m c M) (hc : sa = none → c = 0)
    (hmax : L.length + m ≤ maxLen) (hbytes : (L.length + m) * bytes ≤ 140737488355328) (hbase : base ≤ w.heap.size)
    (h : ∀ v' w', R.Own w' base v' (L ++ M) → Below base w w' → w.grownBy w' v.ownBlock → (v'.ownBlock = v.ownBlock ∨ v'.ownBlock = some w.heap.size) → wpList Pr ops Q rest (a.put o.dst v') w') : wpList Pr ops Q (o :: rest) a w :=
  wpList_plain hgd fun K hK => by
    obtain ⟨v', w', e1, e2, e3, e4⟩ := run_append_list hT hown hM hc hmax hbytes hbase (ty := o.type)
    have hk := hK _ _ (h v' w' e2 e3 e4 (append_where hT hown hM hc hmax hbytes e1))
    unfold Oper.wp execOp
    simp only [ho, resolve, invoke, builtin, Sem.run_bind, Sem.run_pure, Result.andThen_ok, List.map_toArray, List.map_cons, List.map_nil, hs, hx, e1]
    exact hk
end Rep
end
end Go.Proofs.YtadoflcomienoaaGreat
/- What is said, in memory; attributes and updates that hold whatever becomes of a block. -/
namespace Go.Proofs.YtadoflcomienoaaGreat
open Go.RowKit

structure SyV where
  k : PK
  a : AtV
deriving Inhabited
def SyV.sy (x : SyV) : Sy := ⟨x.k, x.a.at⟩
def SyV.v (x : SyV) : Value := .agg #[.int .u32 (x.k.1 : Int), .int .i64 x.k.2, .int .i64 x.a.o, .slice x.a.p.a x.a.p.n x.a.p.c, .int .u32 x.a.nx, .int .i64 x.a.md, .int .i64 x.a.pf, .slice x.a.c.a x.a.c.n x.a.c.c]
def RSy : Rep SyV := ⟨88, 8, by decide, fun x => [.int .u32 (x.k.1 : Int), .int .i64 x.k.2, .int .i64 x.a.o, .slice x.a.p.a x.a.p.n x.a.p.c, .int .u32 x.a.nx, .int .i64 x.a.md, .int .i64 x.a.pf, .slice x.a.c.a x.a.c.n x.a.c.c], fun _ => rfl, fun _ => rfl⟩
structure SyOk (w : World) (x : SyV) : Prop where
  k : x.k.1 < 4294967296 ∧ I64 x.k.2
  a : AtOk w x.a
theorem SyOk.keep {w w' : World} {x : SyV} (h : SyOk w x) (hb : Below w.heap.size w w') : SyOk w' x := ⟨h.k, h.a.keep hb⟩
def BxY (q : Nat) (x : SyV) (W : World) : Prop := W.heap[q]? = some (.cells #[.int .u32 (x.k.1 : Int), .int .i64 x.k.2, .int .i64 x.a.o, .slice x.a.p.a x.a.p.n x.a.p.c, .int .u32 x.a.nx, .int .i64 x.a.md, .int .i64 x.a.pf, .slice x.a.c.a x.a.c.n x.a.c.c] 88)
theorem BxY.keep {q : Nat} {x : SyV} {W W' : World} (h : BxY q x W) (hb : Below W.heap.size W W') : BxY q x W' := (hb.block _ (lt_of_blk h)).trans h
theorem BxY.cells {q : Nat} {x : SyV} {W : World} (h : BxY q x W) : W.cell? ⟨q, 0, none⟩ = some (.int .u32 (x.k.1 : Int)) ∧ W.cell? ⟨q, 1, none⟩ = some (.int .i64 x.k.2) ∧ W.cell? ⟨q, 2, none⟩ = some (.int .i64 x.a.o) ∧ W.cell? ⟨q, 3, none⟩ = some (.slice x.a.p.a x.a.p.n x.a.p.c) ∧ W.cell? ⟨q, 4, none⟩ = some (.int .u32 x.a.nx) ∧ W.cell? ⟨q, 5, none⟩ = some (.int .i64 x.a.md) ∧ W.cell? ⟨q, 6, none⟩ = some (.int .i64 x.a.pf) ∧ W.cell? ⟨q, 7, none⟩ = some (.slice x.a.c.a x.a.c.n x.a.c.c) := ⟨cell_of h rfl, cell_of h rfl, cell_of h rfl, cell_of h rfl, cell_of h rfl, cell_of h rfl, cell_of h rfl, cell_of h rfl⟩

/-- none of it lies in a block -/
def FarS {α : Type} (g : Option Nat) (s : SlV α) : Prop := 0 < s.n → ∀ a, s.a = some a → some a.block ≠ g
theorem SlOk.firm {α : Type} [Inhabited α] {R : Rep α} {ok : World → α → Prop} {g : Option Nat} {w : World} {s : SlV α} (h : SlOk R ok w s) (hg : FarS g s) (hP : ∀ x ∈ s.l, Firm g w fun W => ok W x) : Firm g w fun W => SlOk R ok W s := fun w' h' =>
  ⟨Firm.sl h.sl hg w' h', h.nil, h.nc, h.cm, fun x hx => hP x hx w' h'⟩
theorem SlOk.firmI {g : Option Nat} {w : World} {s : SlV Int} (h : SlOk RI OkI w s) (hg : FarS g s) : Firm g w fun W => SlOk RI OkI W s := h.firm hg fun _ hx _ _ => h.all _ hx
theorem SlOk.firmN {g : Option Nat} {w : World} {s : SlV Nl} (h : SlOk RNl NlOk w s) (hg : FarS g s) : Firm g w fun W => SlOk RNl NlOk W s := h.firm hg fun _ hx _ _ => h.all _ hx
structure FarA (g : Option Nat) (x : AtV) : Prop where
  p : FarS g x.p
  c : FarS g x.c
  s : ∀ y ∈ x.p.l, FarS g y.s
theorem AtOk.firm {g : Option Nat} {w : World} {x : AtV} (h : AtOk w x) (hg : FarA g x) : Firm g w fun W => AtOk W x := fun w' h' =>
  ⟨SlOk.firm (ok := SgOk) h.p hg.p (fun y hy => SlOk.firmI (h.p.all y hy) (hg.s y hy)) w' h', h.c.firmI hg.c w' h', h.o, h.nx, h.md, h.pf⟩
theorem UpOk.firm {g : Option Nat} {w : World} {x : UpV} (h : UpOk w x) (h1 : FarS g x.g) (h2 : FarS g x.r) (h3 : Firm g w fun W => AtOk W x.a) : Firm g w fun W => UpOk W x := fun w' h' =>
  ⟨h.g.firmN h1 w' h', h.r.firmN h2 w' h', h3 w' h'⟩
theorem SyOk.firm {g : Option Nat} {w : World} {x : SyV} (h : SyOk w x) (h3 : Firm g w fun W => AtOk W x.a) : Firm g w fun W => SyOk W x := fun w' h' => ⟨h.k, h3 w' h'⟩
theorem FarS.none {α : Type} {g : Option Nat} {n c : Nat} {l : List α} : FarS g ⟨Option.none, n, c, l⟩ := fun _ _ h => by cases h
/-- it lies in blocks from a number on -/
def NewS {α : Type} (B : Nat) (s : SlV α) : Prop := 0 < s.n → ∀ a, s.a = some a → B ≤ a.block
structure NewA (B : Nat) (x : AtV) : Prop where
  p : NewS B x.p
  c : NewS B x.c
  s : ∀ y ∈ x.p.l, NewS B y.s
theorem NewS.far {α : Type} {B : Nat} {s : SlV α} {g : Option Nat} (h : NewS B s) (hg : ∀ k, g = some k → k < B) : FarS g s := fun hn a e e2 => by have := h hn a e; have := hg _ e2.symm; omega
theorem NewA.far {B : Nat} {x : AtV} {g : Option Nat} (h : NewA B x) (hg : ∀ k, g = some k → k < B) : FarA g x := ⟨h.p.far hg, h.c.far hg, fun y hy => (h.s y hy).far hg⟩
/-- an owned slice, as one that is read -/
theorem Own_slok {α : Type} [Inhabited α] {R : Rep α} {ok : World → α → Prop} {w : World} {base : Nat} {v : Value} {L : List α} (h : R.Own w base v L) (hok : ∀ x ∈ L, ok w x) : ∃ s : SlV α, v = .slice s.a s.n s.c ∧ s.l = L ∧ SlOk R ok w s ∧ NewS base s ∧ (∀ a, s.a = some a → v.ownBlock = some a.block) := by
  rcases h.cases with ⟨rfl, rfl⟩ | ⟨g, cap, rfl, hg, hl, h1, h2, hr, -⟩
  · exact ⟨⟨none, 0, 0, []⟩, rfl, rfl, slZ, (fun _ _ e => by cases e), fun _ e => by cases e⟩
  · exact ⟨⟨some ⟨g, 0, none⟩, L.length, cap, L⟩, rfl, rfl, ⟨⟨rfl, by show L.length ≤ maxLen; omega, fun _ => ⟨g, 0, rfl, hr⟩⟩, (fun e => by cases e), h1, h2, hok⟩, (fun _ a e => by cases e; exact hg), fun a e => by cases e; rfl⟩
/-- it lies ahead of a number, or from another one on -/
def LowS {α : Type} (B : Nat) (s : SlV α) : Prop := 0 < s.n → ∀ a, s.a = some a → a.block < B
structure LowA (B : Nat) (x : AtV) : Prop where
  p : LowS B x.p
  c : LowS B x.c
  s : ∀ y ∈ x.p.l, LowS B y.s
theorem SlOk.low {α : Type} [Inhabited α] {R : Rep α} {ok : World → α → Prop} {w : World} {s : SlV α} (h : SlOk R ok w s) : LowS w.heap.size s := fun hn a e => by
  obtain ⟨b, o, e2, r⟩ := h.sl.row hn
  rw [e] at e2
  injection e2 with e2
  rw [e2]
  exact r.lt
theorem AtOk.low {w : World} {x : AtV} (h : AtOk w x) : LowA w.heap.size x := ⟨h.p.low, h.c.low, fun y hy => SlOk.low (h.p.all y hy)⟩
def ApS {α : Type} (lo hi : Nat) (s : SlV α) : Prop := 0 < s.n → ∀ a, s.a = some a → a.block < lo ∨ hi ≤ a.block
structure ApA (lo hi : Nat) (x : AtV) : Prop where
  p : ApS lo hi x.p
  c : ApS lo hi x.c
  s : ∀ y ∈ x.p.l, ApS lo hi y.s
structure ApU (lo hi : Nat) (x : UpV) : Prop where
  g : ApS lo hi x.g
  r : ApS lo hi x.r
  a : ApA lo hi x.a
theorem LowS.ap {α : Type} {lo hi : Nat} {s : SlV α} (h : LowS lo s) : ApS lo hi s := fun hn a e => .inl (h hn a e)
theorem LowA.ap {lo hi : Nat} {x : AtV} (h : LowA lo x) : ApA lo hi x := ⟨h.p.ap, h.c.ap, fun y hy => (h.s y hy).ap⟩
theorem NewS.ap {α : Type} {lo hi B : Nat} {s : SlV α} (h : NewS B s) (hB : hi ≤ B) : ApS lo hi s := fun hn a e => .inr (Nat.le_trans hB (h hn a e))
theorem NewA.ap {lo hi B : Nat} {x : AtV} (h : NewA B x) (hB : hi ≤ B) : ApA lo hi x := ⟨h.p.ap hB, h.c.ap hB, fun y hy => (h.s y hy).ap hB⟩
theorem ApS.none {α : Type} {lo hi n c : Nat} {l : List α} : ApS lo hi ⟨Option.none, n, c, l⟩ := fun _ _ h => by cases h
theorem ApS.far {α : Type} {lo hi : Nat} {s : SlV α} {g : Option Nat} (h : ApS lo hi s) (hg : ∀ k, g = some k → lo ≤ k ∧ k < hi) : FarS g s := fun hn a e e2 => by
  have h1 := hg _ e2.symm
  rcases h hn a e with h2 | h2 <;> omega
theorem ApA.far {lo hi : Nat} {x : AtV} {g : Option Nat} (h : ApA lo hi x) (hg : ∀ k, g = some k → lo ≤ k ∧ k < hi) : FarA g x := ⟨h.p.far hg, h.c.far hg, fun y hy => (h.s y hy).far hg⟩
theorem ApU.firm {lo hi : Nat} {x : UpV} {g : Option Nat} {w : World} (h : ApU lo hi x) (hg : ∀ k, g = some k → lo ≤ k ∧ k < hi) (hu : UpOk w x) : Firm g w fun W => UpOk W x := hu.firm (h.g.far hg) (h.r.far hg) (hu.a.firm (h.a.far hg))
end Go.Proofs.YtadoflcomienoaaGreat
/- Plain law: rounds of updates, one of each key, how many updates there are. -/
namespace Go.Proofs.YtadoflcomienoaaGreat
open Go.RowKit

def fitA (sz : Nl → Nat) (asz : At → Nat) (a : At) : List Nl → Nat := fitI sz (4073 - asz a) 1024
def mkR (a : At) (l : List Nl) : Up := ⟨[], l, a, false⟩
def mkG (l : List Nl) : Up := ⟨l, [], atZ, false⟩
section
variable {β : Type} (key : β → PK)
variable {key}
theorem look_cons (x : β) (L : List β) (k : PK) : Kl.look key (x :: L) k = if key x = k then some x else Kl.look key L k := by
  unfold Kl.look
  rw [List.find?_cons]
  by_cases h : key x = k
  · simp [h]
  · simp [h]
end
end Go.Proofs.YtadoflcomienoaaGreat
/- How many prefixes fit, as the reference tells: the walk. -/
namespace Go.Proofs.YtadoflcomienoaaGreat
open Go.RowKit

theorem Rep.At.range {α : Type} [Inhabited α] {R : Rep α} {W : World} {b o : Nat} {z : α} (h : R.At W b o z) : W.rangeAt b o (R.cells z) := by
  intro j v hv
  have hj : j < R.k := by rw [← R.len z]; exact (List.getElem?_eq_some_iff.1 hv).1
  exact (h j hj).trans hv
theorem range_box {W : World} {q : Nat} {cs : Array Value} {T : TypeId} {fr : Nat × Nat} (h : W.heap[q]? = some (.cells cs T fr)) : W.rangeAt q 0 cs.toList := by
  intro j v hv
  rw [Nat.zero_add]
  exact cell_of h (by simpa using hv)
structure FtS (q : Nat) (w0 : World) (x : AtV) (s : SlV Nl) (W : World) : Prop where
  bx : BxA q x W
  s : SlOk RNl NlOk W s
  a : AtOk W x
  old : Below w0.heap.size w0 W
theorem FtS.keep {q : Nat} {w0 : World} {x : AtV} {s : SlV Nl} {W W' : World} (h : FtS q w0 x s W) (hb : Below W.heap.size W W') : FtS q w0 x s W' := ⟨h.bx.keep hb, h.s.keepN hb, h.a.keep hb, bcall h.old (Nat.le_refl _) hb⟩
end Go.Proofs.YtadoflcomienoaaGreat
/- Where a prefix stands; which lists are the same, which are too large, as the reference tells. -/
namespace Go.Proofs.YtadoflcomienoaaGreat
open Go.RowKit

/-- an element that lies where a world had it -/
structure ElS {α : Type} [Inhabited α] (R : Rep α) (w0 : World) (b o : Nat) (x : α) (W : World) : Prop where
  at' : R.At W b o x
  lt : b < w0.heap.size
  old : Below w0.heap.size w0 W
theorem ElS.keep {α : Type} [Inhabited α] {R : Rep α} {w0 : World} {b o : Nat} {x : α} {W W' : World} (h : ElS R w0 b o x W) (hb : Below W.heap.size W W') : ElS R w0 b o x W' := ⟨h.at'.keep (hb.block _ (Nat.lt_of_lt_of_le h.lt h.old.size)), h.lt, bcall h.old (Nat.le_refl _) hb⟩
theorem ElS.begin {α : Type} [Inhabited α] {R : Rep α} {w0 : World} {b o : Nat} {x : α} (h : R.At w0 b o x) (hl : b < w0.heap.size) : ElS R w0 b o x w0 := ⟨h, hl, Below.refl _ _⟩
structure El2 {α : Type} [Inhabited α] (R : Rep α) (w0 : World) (b o : Nat) (x : α) (c p : Nat) (y : α) (W : World) : Prop where
  l : ElS R w0 b o x W
  r : ElS R w0 c p y W
theorem El2.keep {α : Type} [Inhabited α] {R : Rep α} {w0 : World} {b o c p : Nat} {x y : α} {W W' : World} (h : El2 R w0 b o x c p y W) (hb : Below W.heap.size W W') : El2 R w0 b o x c p y W' := ⟨h.l.keep hb, h.r.keep hb⟩
theorem Rep.At.yP {W : World} {b o : Nat} {x : SyV} (h : RSy.At W b o x) : W.rangeAt b o [.int .u32 (x.k.1 : Int), .int .i64 x.k.2] := by
  intro j v hv
  match j, hv with
  | 0, hv => exact (h 0 (by decide)).trans (by simpa [RSy] using hv)
  | 1, hv => exact (h 1 (by decide)).trans (by simpa [RSy] using hv)
theorem pk_ne {x k : PK} (h : x ≠ k) : ((x.1 : Int) == (k.1 : Int)) = false ∨ ((x.1 : Int) = (k.1 : Int) ∧ (x.2 == k.2) = false) := by
  by_cases f : x.1 = k.1
  · exact .inr ⟨by rw [f], by simpa using fun g : x.2 = k.2 => h (Prod.ext f g)⟩
  · exact .inl (by simpa using fun g : ((x.1 : Nat) : Int) = (k.1 : Int) => f (by omega))
/-- where a prefix stands -/
def ixP (sl : List SyV) (k : PK) (r : Int) : Prop := (r = -1 ∧ Kl.look SyV.k sl k = none) ∨ ∃ i : Nat, r = i ∧ i < sl.length ∧ Kl.look SyV.k sl k = some (sl.getD i default)
theorem look_take {sl : List SyV} {i : Nat} {k : PK} (h : ∀ j, j < i → (sl.getD j default).k ≠ k) (hi : i < sl.length) (he : (sl.getD i default).k = k) : Kl.look SyV.k sl k = some (sl.getD i default) := by
  induction sl generalizing i with
  | nil => simp at hi
  | cons x r ih =>
    rw [look_cons]
    cases i with
    | zero =>
      simp only [List.getD_cons_zero] at he ⊢
      rw [if_pos he]
    | succ i =>
      have h0 := h 0 (Nat.succ_pos _)
      simp only [List.getD_cons_zero, List.getD_cons_succ] at h0 he ⊢
      rw [if_neg h0]
      exact ih (fun j hj => by have := h (j + 1) (by omega); simpa using this) (by simpa using hi) he
theorem look_all {sl : List SyV} {k : PK} (h : ∀ j, j < sl.length → (sl.getD j default).k ≠ k) : Kl.look SyV.k sl k = none := Kl.look_no fun x hx => by
  obtain ⟨i, hi, rfl⟩ := List.getElem_of_mem hx
  have := h i hi
  rwa [List.getD_eq_getElem?_getD, List.getElem?_eq_getElem hi, Option.getD_some] at this
structure FdS (w0 : World) (b o : Nat) (x : SyV) (q : Nat) (k : PK) (W : World) : Prop where
  e : ElS RSy w0 b o x W
  bx : BxP q k W
set_option maxRecDepth 100000 in
set_option maxHeartbeats 4000000 in
theorem rfind_any {w : World} {sa : Option Addr} {sn sc : Nat} {sl : List SyV} (h : RSy.Sl w sa sn sc sl) (k : PK) : Calls Tryz.prog 59 #[.slice sa sn sc, .agg #[.int .u32 (k.1 : Int), .int .i64 k.2]] w fun e w' => (∃ r, e = .returned (.int .i64 r) ∧ ixP sl k r) ∧ Below w.heap.size w w' := by
  have hal := (Below.refl w.heap.size w).alloc (Nat.le_refl _) (.cells #[.int .u32 (k.1 : Int), .int .i64 k.2] 58)
  have hX : BxP w.heap.size k (w.alloc (.cells #[.int .u32 (k.1 : Int), .int .i64 k.2] 58)) := hnew _ _
  have HL := Lib.hid h.len
  have hmax := h.max
  have F := Lib.hid (And.intro hal (And.intro hX (h.keep hal)))
  clear h hal hX
  go_enter Tryz.func59, Tryz.ntmps59
  go_wp2_with fail
  generalize w.alloc (.cells #[.int .u32 (k.1 : Int), .int .i64 k.2] 58) = W0 at *
  go_loopw [5] (fun iv wr => ∃ i : Nat, i ≤ sn ∧ iv = .int .i64 i ∧ (∀ j, j < i → (sl.getD j default).k ≠ k) ∧ Below W0.heap.size W0 wr) (fun iv _ => sn - (intOf iv).toNat)
  case atStart => exact ⟨0, Nat.zero_le _, rfl, fun j hj => absurd hj (Nat.not_lt_zero _), Below.refl _ _⟩
  case round =>
    obtain ⟨i, hi, rfl, hall, hb⟩ := hrel
    obtain ⟨w4, rfl⟩ : ∃ w4 : World, w4 = wr := ⟨_, rfl⟩
    by_cases hlt : i < sn
    · have hil : ((i : Int) < (sn : Int)) = True := by simp; omega
      have hi0 : ((0 : Int) ≤ (i : Int)) = True := by simp
      have hw3 := wrapS hlt hmax
      obtain ⟨b, o, rfl, hbb, hat⟩ := (F.out.2.2.keep hb).at hlt
      obtain ⟨x, hx⟩ : ∃ x, sl.getD i default = x := ⟨_, rfl⟩
      rw [hx] at hat
      have hd := (Below.refl w4.heap.size w4).drew
      have K := Lib.hid (And.intro (show FdS w4 b (o + i * 8) x w.heap.size k w4.drew from ⟨(ElS.begin hat hbb).keep hd, (F.out.2.1.keep hb).keep hd⟩) (And.intro (bcall hb (Nat.le_refl _) hd) (And.intro hall (And.intro hx hlt))))
      clear hb hat hall hx hd hbb
      by_cases hxy : x.k = k
      · have e1 : (x.k.1 : Int) = (k.1 : Int) := by rw [hxy]
        have e2 : x.k.2 = k.2 := by rw [hxy]
        have HXY := Lib.hid hxy
        clear hxy
        go_wp2_with fail
        refine wp_region_heldP (FdS w4 b (o + i * 8) x w.heap.size k) (by kernel_rfl) ?_
        generalize w4.drew = V at *
        refine held_reads [0, 1, 2, 3, 4, 5, 6] (g := 0) rfl (by kernel_rfl) K.out.1 (fun _ _ d _ _ h => by cases d <;> exact h) ?_
        simp only [pick, List.getD_cons_zero, List.getD_cons_succ]
        iterate 4 ((with_reducible refine wpRead_step (fun K hK => ?_)); go_simp; first | ((with_reducible refine hK _ ?_); clear hK K) | (apply Exists.intro; (with_reducible refine ⟨fun w' hw' => ?_, hK _ ?_⟩); (first | exact rfl | exact ⟨rfl, rfl⟩); clear hK K))
        with_reducible refine wpRead_yes ?_ ?_
        rotate_left
        rfl
        intro K hK
        refine read_load 58 _ rfl b (o + i * 8) #[.int .u32 (x.k.1 : Int), .int .i64 x.k.2] rfl (fun w' hw' => hw'.e.at'.yP) Tryz.underlying58 rfl (by kernel_rfl) (hK _ ?_)
        clear hK K
        with_reducible refine wpRead_yes ?_ ?_
        rotate_left
        rfl
        intro K hK
        refine read_load 58 _ rfl w.heap.size 0 #[.int .u32 (k.1 : Int), .int .i64 k.2] rfl (fun w' hw' => range_box hw'.bx) Tryz.underlying58 rfl (by kernel_rfl) (hK _ ?_)
        clear hK K
        ((with_reducible refine wpRead_step (fun K hK => ?_)); go_simp; first | ((with_reducible refine hK _ ?_); clear hK K) | (apply Exists.intro; (with_reducible refine ⟨fun w' hw' => ?_, hK _ ?_⟩); (first | exact rfl | exact ⟨rfl, rfl⟩); clear hK K))
        with_reducible refine wpRead_nil ?_
        refine wpAnyH_done (by kernel_rfl) ?_ _
        go_wp2_with fail
        go_ret
        exact ⟨⟨_, rfl, .inr ⟨i, rfl, by rw [← HL.out]; exact K.out.2.2.2.2, by rw [look_take K.out.2.2.1 (by rw [← HL.out]; exact K.out.2.2.2.2) (by rw [K.out.2.2.2.1]; exact HXY.out)]⟩⟩, bcall F.out.1 (Nat.le_refl _) K.out.2.1⟩
      · have HXY := Lib.hid hxy
        rcases pk_ne hxy with e1 | ⟨e1, e2⟩
        all_goals
          clear hxy
          go_wp2_with fail
          refine wp_region_heldP (FdS w4 b (o + i * 8) x w.heap.size k) (by kernel_rfl) ?_
          generalize w4.drew = V at *
          refine held_reads [0, 1, 2, 3, 4, 5, 6] (g := 0) rfl (by kernel_rfl) K.out.1 (fun _ _ d _ _ h => by cases d <;> exact h) ?_
          simp only [pick, List.getD_cons_zero, List.getD_cons_succ]
          iterate 4 ((with_reducible refine wpRead_step (fun K hK => ?_)); go_simp; first | ((with_reducible refine hK _ ?_); clear hK K) | (apply Exists.intro; (with_reducible refine ⟨fun w' hw' => ?_, hK _ ?_⟩); (first | exact rfl | exact ⟨rfl, rfl⟩); clear hK K))
          with_reducible refine wpRead_yes ?_ ?_
          rotate_left
          rfl
          intro K hK
          refine read_load 58 _ rfl b (o + i * 8) #[.int .u32 (x.k.1 : Int), .int .i64 x.k.2] rfl (fun w' hw' => hw'.e.at'.yP) Tryz.underlying58 rfl (by kernel_rfl) (hK _ ?_)
          clear hK K
          with_reducible refine wpRead_yes ?_ ?_
          rotate_left
          rfl
          intro K hK
          refine read_load 58 _ rfl w.heap.size 0 #[.int .u32 (k.1 : Int), .int .i64 k.2] rfl (fun w' hw' => range_box hw'.bx) Tryz.underlying58 rfl (by kernel_rfl) (hK _ ?_)
          clear hK K
          ((with_reducible refine wpRead_step (fun K hK => ?_)); go_simp; first | ((with_reducible refine hK _ ?_); clear hK K) | (apply Exists.intro; (with_reducible refine ⟨fun w' hw' => ?_, hK _ ?_⟩); (first | exact rfl | exact ⟨rfl, rfl⟩); clear hK K))
          with_reducible refine wpRead_nil ?_
          refine wpAnyH_done (by kernel_rfl) ?_ _
          go_wp2_with fail
          exact ⟨⟨i + 1, hlt, by first | rw [hw3] | rw [Int.natCast_succ], fun j hj => (Nat.lt_succ_iff_lt_or_eq.1 hj).elim (K.out.2.2.1 j) (fun e => by rw [e, K.out.2.2.2.1]; exact HXY.out), K.out.2.1⟩, by first | (rw [hw3]; exact mSucc hlt) | (rw [← Int.natCast_succ]; exact mSucc hlt)⟩
    · obtain rfl : sn = i := by omega
      have hil : ((sn : Int) < (sn : Int)) = False := by simp
      have HB := Lib.hid (And.intro hb hall)
      clear hb hall
      go_wp2_with fail
      go_ret
      exact ⟨⟨_, rfl, .inl ⟨rfl, look_all fun j hj => HB.out.2 j (by rw [HL.out]; exact hj)⟩⟩, bcall F.out.1 (Nat.le_refl _) HB.out.1⟩

end Go.Proofs.YtadoflcomienoaaGreat
/- What may be said, as the reference tells. -/
namespace Go.Proofs.YtadoflcomienoaaGreat
open Go.RowKit

def okS (four : Bool) (s : SyV) : Bool := okP s.k.1 s.k.2 && okA four s.a.at
end Go.Proofs.YtadoflcomienoaaGreat
/- Updates of prefixes that go. -/
namespace Go.Proofs.YtadoflcomienoaaGreat
open Go.RowKit

theorem szN_9 {n : Nl} (h : okN false n = true) : szN n ≤ 9 := nb_len false h
theorem fitG_pos {l : List Nl} (hL : ∀ n ∈ l, okN false n = true) (h : l ≠ []) : 1 ≤ fitI szN 4073 1024 l := fitI_pos h (by decide) fun x hx => by have := szN_9 (hL x hx); omega
theorem goneI_step {l : List Nl} (hL : ∀ n ∈ l, okN false n = true) (h : l ≠ []) : goneI szN l = mkG (l.take (fitI szN 4073 1024 l)) :: goneI szN (l.drop (fitI szN 4073 1024 l)) := by
  have h1 := fitG_pos hL h
  have e : ∀ (n m : Nat) (r : List Nl), (∀ x ∈ r, okN false x = true) → r.length ≤ n → r.length ≤ m → chunksI (fitI szN 4073 1024) n r = chunksI (fitI szN 4073 1024) m r := by
    intro n
    induction n with
    | zero =>
      intro m r hr h1 h2
      obtain rfl := List.length_eq_zero_iff.1 (Nat.le_zero.1 h1)
      rw [chunksI_nil, chunksI_nil]
    | succ n ih =>
      intro m r hr h1 h2
      by_cases h0 : r = []
      · rw [h0, chunksI_nil, chunksI_nil]
      · have h3 := fitG_pos hr h0
        have h4 := List.length_pos_iff.2 h0
        obtain ⟨m', rfl⟩ : ∃ m', m = m' + 1 := ⟨m - 1, by omega⟩
        rw [chunksI_cons _ n h0, chunksI_cons _ m' h0, ih m' _ (fun x hx => hr x (List.mem_of_mem_drop hx)) (by rw [List.length_drop]; omega) (by rw [List.length_drop]; omega)]
  unfold goneI
  have h4 := List.length_pos_iff.2 h
  obtain ⟨n, hn⟩ : ∃ n, l.length = n + 1 := ⟨l.length - 1, by omega⟩
  rw [hn, chunksI_cons _ n h, List.map_cons, e n (l.drop (fitI szN 4073 1024 l)).length _ (fun x hx => hL x (List.mem_of_mem_drop hx)) (by rw [List.length_drop]; omega) (Nat.le_refl _)]
  rfl
/-- what has been laid, what is left -/
structure GnS (sn : Nat) (sl : List Nl) (M : List UpV) (l : List Nl) : Prop where
  ok : ∀ n ∈ l, okN false n = true
  eq : M.map UpV.up ++ goneI szN l = goneI szN sl
  len : M.length + l.length ≤ sn
theorem GnS.step {sn : Nat} {sl : List Nl} {M : List UpV} {l : List Nl} (h : GnS sn sl M l) (h0 : l ≠ []) {i : Nat} (hi : fitI szN 4073 1024 l = i) {x : UpV} (hx : x.up = mkG (l.take i)) : GnS sn sl (M ++ [x]) (l.drop i) := by
  have h1 := fitG_pos h.ok h0
  have h4 := List.length_pos_iff.2 h0
  refine ⟨fun n hn => h.ok n (List.mem_of_mem_drop hn), ?_, ?_⟩
  · rw [← h.eq, goneI_step h.ok h0, hi, List.map_append, List.append_assoc, List.map_cons, hx]
    rfl
  · have := h.len
    rw [List.length_append, List.length_drop, List.length_singleton]
    omega
end Go.Proofs.YtadoflcomienoaaGreat
/- Those with the same attributes, and the rest: two slices of the call's own. -/
namespace Go.Proofs.YtadoflcomienoaaGreat
open Go.RowKit

def sameV (a : At) (L : List SyV) : List Nl := (L.filter fun t => decide (t.a.at = a)).map fun t => t.sy.nl
def restV (a : At) (L : List SyV) : List SyV := L.filter fun t => !decide (t.a.at = a)
theorem sameV_yes {a : At} {L : List SyV} {i : Nat} (hi : i < L.length) {x : SyV} (hx : L.getD i default = x) (h : x.a.at = a) : sameV a (L.take (i + 1)) = sameV a (L.take i) ++ [x.sy.nl] ∧ restV a (L.take (i + 1)) = restV a (L.take i) := by
  have e : decide (x.a.at = a) = true := decide_eq_true h
  unfold sameV restV
  rw [take_snoc L i hi, hx, List.filter_append, List.filter_append, List.map_append]
  simp [e]
theorem sameV_no {a : At} {L : List SyV} {i : Nat} (hi : i < L.length) {x : SyV} (hx : L.getD i default = x) (h : ¬ x.a.at = a) : sameV a (L.take (i + 1)) = sameV a (L.take i) ∧ restV a (L.take (i + 1)) = restV a (L.take i) ++ [x] := by
  have e : decide (x.a.at = a) = false := decide_eq_false h
  unfold sameV restV
  rw [take_snoc L i hi, hx, List.filter_append, List.filter_append]
  simp [e]
structure SmS (w2 : World) (L : List SyV) (a : At) (i : Nat) (sv rv : Value) (wr : World) : Prop where
  s : RNl.Own wr w2.heap.size sv (sameV a (L.take i))
  r : RSy.Own wr w2.heap.size rv (restV a (L.take i))
  far : ∀ b, sv.ownBlock = some b → rv.ownBlock ≠ some b
  old : Below w2.heap.size w2 wr
theorem SmS.begin (w2 : World) (L : List SyV) (a : At) : SmS w2 L a 0 (.slice none 0 0) (.slice none 0 0) w2 := ⟨Rep.Own.nil _ _, Rep.Own.nil _ _, (fun b h => by cases h), Below.refl _ _⟩
theorem SmS.keep {w2 : World} {L : List SyV} {a : At} {i : Nat} {sv rv : Value} {wr W : World} (h : SmS w2 L a i sv rv wr) (hb : Below wr.heap.size wr W) : SmS w2 L a i sv rv W := ⟨h.s.below hb, h.r.below hb, h.far, bcall h.old (Nat.le_refl _) hb⟩
theorem SmS.same {w2 : World} {L : List SyV} {a : At} {i : Nat} {sv rv sv' : Value} {wr W : World} (h : SmS w2 L a i sv rv wr) (hi : i < L.length) {x : SyV} (hx : L.getD i default = x) (he : x.a.at = a) (hown : RNl.Own W w2.heap.size sv' (sameV a (L.take i) ++ [x.sy.nl])) (hb : Below w2.heap.size wr W) (hg : wr.grownBy W sv.ownBlock) (hf : sv'.ownBlock = sv.ownBlock ∨ sv'.ownBlock = some wr.heap.size) : SmS w2 L a (i + 1) sv' rv W := by
  obtain ⟨e1, e2⟩ := sameV_yes hi hx he
  refine ⟨by rw [e1]; exact hown, ?_, ?_, h.old.trans hb⟩
  · rw [e2]
    exact h.r.keep fun b hbk => hg.block b (World.ownsRow.lt h.r b hbk).2 (fun e => h.far b e.symm hbk)
  · intro b hbk hbr
    rcases hf with hf | hf
    · exact h.far b (hf.symm.trans hbk) hbr
    · rw [hf] at hbk
      injection hbk with hbk
      have := (World.ownsRow.lt h.r b hbr).2
      omega
theorem SmS.rest {w2 : World} {L : List SyV} {a : At} {i : Nat} {sv rv rv' : Value} {wr W : World} (h : SmS w2 L a i sv rv wr) (hi : i < L.length) {x : SyV} (hx : L.getD i default = x) (he : ¬ x.a.at = a) (hown : RSy.Own W w2.heap.size rv' (restV a (L.take i) ++ [x])) (hb : Below w2.heap.size wr W) (hg : wr.grownBy W rv.ownBlock) (hf : rv'.ownBlock = rv.ownBlock ∨ rv'.ownBlock = some wr.heap.size) : SmS w2 L a (i + 1) sv rv' W := by
  obtain ⟨e1, e2⟩ := sameV_no hi hx he
  refine ⟨?_, by rw [e2]; exact hown, ?_, h.old.trans hb⟩
  · rw [e1]
    exact h.s.keep fun b hbk => hg.block b (World.ownsRow.lt h.s b hbk).2 (fun e => h.far b hbk e.symm)
  · intro b hbk hbr
    rcases hf with hf | hf
    · exact h.far b hbk (hf.symm.trans hbr)
    · rw [hf] at hbr
      injection hbr with hbr
      have := (World.ownsRow.lt h.s b hbk).2
      omega
theorem fitA_pos {four : Bool} {a : At} (ha : okA four a = true) {l : List Nl} (hL : ∀ n ∈ l, okN false n = true) (h : l ≠ []) : 1 ≤ fitA szN (asz four) a l := fitI_pos h (by decide) fun x hx => by have := szN_9 (hL x hx); have := asz_le ha; omega
theorem chunksA_step {four : Bool} {a : At} (ha : okA four a = true) {l : List Nl} (hL : ∀ n ∈ l, okN false n = true) (h : l ≠ []) : chunksI (fitA szN (asz four) a) l.length l = l.take (fitA szN (asz four) a l) :: chunksI (fitA szN (asz four) a) (l.drop (fitA szN (asz four) a l)).length (l.drop (fitA szN (asz four) a l)) := by
  have e : ∀ (n m : Nat) (r : List Nl), (∀ x ∈ r, okN false x = true) → r.length ≤ n → r.length ≤ m → chunksI (fitA szN (asz four) a) n r = chunksI (fitA szN (asz four) a) m r := by
    intro n
    induction n with
    | zero =>
      intro m r hr h1 h2
      obtain rfl := List.length_eq_zero_iff.1 (Nat.le_zero.1 h1)
      rw [chunksI_nil, chunksI_nil]
    | succ n ih =>
      intro m r hr h1 h2
      by_cases h0 : r = []
      · rw [h0, chunksI_nil, chunksI_nil]
      · have h3 := fitA_pos ha hr h0
        have h4 := List.length_pos_iff.2 h0
        obtain ⟨m', rfl⟩ : ∃ m', m = m' + 1 := ⟨m - 1, by omega⟩
        rw [chunksI_cons _ n h0, chunksI_cons _ m' h0, ih m' _ (fun x hx => hr x (List.mem_of_mem_drop hx)) (by rw [List.length_drop]; omega) (by rw [List.length_drop]; omega)]
  have h1 := fitA_pos ha hL h
  have h4 := List.length_pos_iff.2 h
  obtain ⟨n, hn⟩ : ∃ n, l.length = n + 1 := ⟨l.length - 1, by omega⟩
  rw [hn, chunksI_cons _ n h, e n _ _ (fun x hx => hL x (List.mem_of_mem_drop hx)) (by rw [List.length_drop]; omega) (Nat.le_refl _)]
/-- the outer rounds -/
structure CmS (four : Bool) (lo hi sn : Nat) (tot : List Up) (M : List UpV) (l : List SyV) : Prop where
  ap : ∀ x ∈ M, ApU lo hi x
  low : ∀ s ∈ l, LowA lo s.a
  ok : ∀ s ∈ l, okS four s = true
  eq : M.map UpV.up ++ comeI szN (asz four) l.length (l.map SyV.sy) = tot
  len : M.length + l.length ≤ sn
/-- the inner rounds -/
structure CmT (four : Bool) (lo hi sn : Nat) (tot : List Up) (a : At) (rest : List SyV) (M : List UpV) (s : List Nl) : Prop where
  ap : ∀ x ∈ M, ApU lo hi x
  low : ∀ s ∈ rest, LowA lo s.a
  ok : ∀ s ∈ rest, okS four s = true
  oks : ∀ n ∈ s, okN false n = true
  oka : okA four a = true
  eq : M.map UpV.up ++ ((chunksI (fitA szN (asz four) a) s.length s).map (mkR a) ++ comeI szN (asz four) rest.length (rest.map SyV.sy)) = tot
  len : M.length + s.length + rest.length ≤ sn
theorem CmT.step {four : Bool} {lo hi sn : Nat} {tot : List Up} {a : At} {rest : List SyV} {M : List UpV} {s : List Nl} (h : CmT four lo hi sn tot a rest M s) (h0 : s ≠ []) {i : Nat} (hfi : fitI szN (4073 - asz four a) 1024 s = i) {x : UpV} (hx : x.up = mkR a (s.take i)) (hap : ApU lo hi x) : CmT four lo hi sn tot a rest (M ++ [x]) (s.drop i) := by
  have h1 := fitA_pos h.oka h.oks h0
  have h4 := List.length_pos_iff.2 h0
  have hi' : fitA szN (asz four) a s = i := hfi
  refine ⟨fun y hy => ?_, h.low, h.ok, fun n hn => h.oks n (List.mem_of_mem_drop hn), h.oka, ?_, ?_⟩
  · rcases List.mem_append.1 hy with hy | hy
    · exact h.ap y hy
    · rw [List.mem_singleton] at hy; exact hy ▸ hap
  · rw [← h.eq, chunksA_step h.oka h.oks h0, hi', List.map_append, List.append_assoc, List.map_cons, List.map_cons, hx]
    rfl
  · have := h.len
    rw [List.length_append, List.length_drop, List.length_singleton]
    omega
theorem CmS.done {four : Bool} {lo hi sn : Nat} {tot : List Up} {M : List UpV} (h : CmS four lo hi sn tot M []) : M.map UpV.up = tot := by rw [← h.eq, List.map_nil, comeI_nil, List.append_nil]
end Go.Proofs.YtadoflcomienoaaGreat
/- What is said, by prefixes: a map. -/
namespace Go.Proofs.YtadoflcomienoaaGreat
open Go.RowKit
open Go.ChangeMaps (setBlock)

theorem laidOut : laidOutB Tryz.prog = true := by kernel_rfl
theorem rowP : (58 : TypeId) < Tryz.prog.types.size := of_decide_eq_true (by kernel_rfl)
theorem wideP : (match Tryz.prog.underlying 58 with | some (.array _ _) | some (.struct _) => true | _ => false) = true := by kernel_rfl
set_option maxRecDepth 100000 in
theorem lawP : WideMaps.KeyLaw Tryz.prog 58 := deep_law_laid laidOut (m := 2) (by omega) rowP (by kernel_rfl) wideP
theorem keyP : Tryz.prog.keyType 58 = true := by kernel_rfl
theorem sizeT : Tryz.prog.types.size + 1 = 282 + 1 + 1 + 1 := by kernel_rfl
theorem cellsP : Tryz.prog.cellsOf 58 = 2 := by kernel_rfl
theorem cells3 : Tryz.prog.cellsOf 3 = 1 := by kernel_rfl
theorem cells22 : Tryz.prog.cellsOf 37 = 1 := by kernel_rfl
def PK.val (k : PK) : Value := .agg #[.int .u32 (k.1 : Int), .int .i64 k.2]
def PK.wf (k : PK) : Prop := (Lit.int .u32 (k.1 : Int)).wf = true ∧ (Lit.int .i64 k.2).wf = true
theorem PK.reads (k : PK) (h : PK.wf k) : ∃ l, keyOf Tryz.prog 58 (PK.val k) = some l := by
  obtain ⟨h2, h3⟩ := h
  have hf : (PK.val k).formed Tryz.prog 58 = true := by simp [Value.formed, Tryz.underlying58, PK.val, cellsP]
  have i1 : ∀ d n, (Lit.int .i64 n).wf = true → Tryz.prog.keyLits (d + 1) 3 [.int .i64 n] = some [.int .i64 n] := by
    intro d n h; simp [Program.keyLits, Tryz.underlying3, h]
  have i2 : ∀ d n, (Lit.int .u32 n).wf = true → Tryz.prog.keyLits (d + 1) 37 [.int .u32 n] = some [.int .u32 n] := by
    intro d n h; simp [Program.keyLits, Tryz.underlying37, h]
  have i3 : ∀ d, Tryz.prog.keyLits (d + 1 + 1) 58 [.int .u32 (k.1 : Int), .int .i64 k.2] = some [.int .u32 (k.1 : Int), .int .i64 k.2] := by
    intro d; unfold Program.keyLits; simp [Tryz.underlying58, cellsP, cells3, cells22, i1 d _ h3, i2 d _ h2]
  unfold keyOf
  simp only [Tryz.underlying58]
  rw [keyP, hf, sizeT]
  have := i3 (282 + 1)
  simp only [PK.val, Value.cells, this]
  exact ⟨_, rfl⟩
def PN : MR.Enc Tryz.prog 58 PK where
  enc := PK.val
  ok := PK.wf
  law := Maps.Keyed.of_law lawP
  reads := PK.reads
  inj a b h := by
    obtain ⟨a1, a2⟩ := a
    obtain ⟨b1, b2⟩ := b
    simp [PK.val] at h
    exact Prod.ext (by omega) h.2
theorem zeroA (w : World) : (zeroValue 40).run Tryz.prog w = .ok (.agg #[.int .i64 0, .slice none 0 0, .int .u32 0, .int .i64 0, .int .i64 0, .slice none 0 0]) w := by kernel_rfl
/-- the map of these -/
def SaidAt (w : World) (bm : Nat) (L : List SyV) : Prop := ∃ clk es, MR.MapAt PN w bm es clk ∧ Kl.Lay SyV.k (fun x => x.a.v) es L
theorem SaidAt.on {w w' : World} {bm : Nat} {L : List SyV} (h : SaidAt w bm L) (e : w'.heap[bm]? = w.heap[bm]?) : SaidAt w' bm L := by
  obtain ⟨clk, es, h1, h2⟩ := h
  exact ⟨clk, es, h1.blk_iff PN e, h2⟩
theorem SaidAt.lt {w : World} {bm : Nat} {L : List SyV} (h : SaidAt w bm L) : bm < w.heap.size := by
  obtain ⟨clk, es, h1, h2⟩ := h
  exact lt_of_blk h1.blk
theorem SaidAt.keep {w w' : World} {bm : Nat} {L : List SyV} (h : SaidAt w bm L) (hb : Below w.heap.size w w') : SaidAt w' bm L := h.on (hb.block _ h.lt)
theorem SaidAt.nd {w : World} {bm : Nat} {L : List SyV} (h : SaidAt w bm L) : (L.map SyV.k).Nodup := by
  obtain ⟨clk, es, h1, h2⟩ := h
  exact h2.nd
def getA (L : List SyV) (k : PK) : AtV := ((Kl.look SyV.k L k).map SyV.a).getD atZV
def hasY (L : List SyV) (k : PK) : Bool := (Kl.look SyV.k L k).isSome
theorem SaidAt.lookup {w : World} {bm : Nat} {L : List SyV} (H : SaidAt w bm L) {k : PK} (hk : PN.ok k) (W : World) (hW : W.heap[bm]? = w.heap[bm]?) :
    (Instr.lookup 95 (.map (some bm)) (.agg #[.int .u32 (k.1 : Int), .int .i64 k.2]) true).run Tryz.prog W = .ok (.tuple #[.agg #[.int .i64 (getA L k).o, .slice (getA L k).p.a (getA L k).p.n (getA L k).p.c, .int .u32 (getA L k).nx, .int .i64 (getA L k).md, .int .i64 (getA L k).pf, .slice (getA L k).c.a (getA L k).c.n (getA L k).c.c], .bool (hasY L k)]) W := by
  obtain ⟨clk, es, k2, k3⟩ := H
  have h := MR.run_lookup PN (k2.blk_iff PN hW) hk Tryz.underlying95 zeroA true
  rw [k3.get, if_pos rfl] at h
  have e1 : ((Kl.look SyV.k L k).map fun x => x.a.v).getD (.agg #[.int .i64 0, .slice none 0 0, .int .u32 0, .int .i64 0, .int .i64 0, .slice none 0 0]) = (getA L k).v := by unfold getA; cases Kl.look SyV.k L k <;> rfl
  have e2 : ((Kl.look SyV.k L k).map fun x => x.a.v).isSome = hasY L k := by unfold hasY; cases Kl.look SyV.k L k <;> rfl
  rw [e1, e2] at h
  exact h
theorem SaidAt.put {w : World} {bm : Nat} {L L' : List SyV} (H : SaidAt w bm L) {x : SyV} (hk : PN.ok x.k) (hL : (L'.map SyV.k).Nodup) (hl : ∀ k, Kl.look SyV.k L' k = if k = x.k then some x else Kl.look SyV.k L k) :
    ∃ O, (Instr.mapUpdate 95 (.map (some bm)) (.agg #[.int .u32 (x.k.1 : Int), .int .i64 x.k.2]) (.agg #[.int .i64 x.a.o, .slice x.a.p.a x.a.p.n x.a.p.c, .int .u32 x.a.nx, .int .i64 x.a.md, .int .i64 x.a.pf, .slice x.a.c.a x.a.c.n x.a.c.c])).run Tryz.prog w = .ok () (setBlock w bm O) ∧ SaidAt (setBlock w bm O) bm L' := by
  obtain ⟨clk, es, k2, k3⟩ := H
  have hu := MR.run_update PN k2 hk Tryz.underlying95 (x.a.v)
  exact ⟨_, hu.1, ⟨_, _, hu.2, k3.put hL hl hu.2.nodup hu.2.bnodup⟩⟩
theorem SaidAt.delete {w : World} {bm : Nat} {L : List SyV} (H : SaidAt w bm L) {k : PK} (hk : PN.ok k) (K' ty : TypeId) :
    ∃ O, (Builtin.delete_ #[95, K'] ty #[.map (some bm), .agg #[.int .u32 (k.1 : Int), .int .i64 k.2]]).run Tryz.prog w = .ok (.tuple #[]) (setBlock w bm O) ∧ SaidAt (setBlock w bm O) bm (L.filter fun x => decide (x.k ≠ k)) := by
  obtain ⟨clk, es, k2, k3⟩ := H
  have hu := MR.run_delete PN k2 hk Tryz.underlying95 (K' := K') ty
  exact ⟨_, hu.1, ⟨_, _, hu.2, k3.del k⟩⟩
theorem SaidAt.len {w : World} {bm : Nat} {L : List SyV} (H : SaidAt w bm L) (W : World) (hW : W.heap[bm]? = w.heap[bm]?) (ty : TypeId) : (Builtin.len_ #[95] ty #[.map (some bm)]).run Tryz.prog W = .ok (.int .i64 L.length) W := by
  obtain ⟨clk, es, k2, k3⟩ := H
  have := MR.run_len PN (k2.blk_iff PN hW) Tryz.underlying95 ty
  rw [k3.len] at this
  exact this
end Go.Proofs.YtadoflcomienoaaGreat
/- slices.SortFunc of an owned slice of structs. -/
namespace Go.Proofs.YtadoflcomienoaaGreat
open Go.Shelf Go.RowKit Go.Lib Go.Sort
namespace Rep
variable {α : Type} [Inhabited α] {R : Rep α}
/-- no later one is less than an earlier one -/
def SortedBy (cf : α → α → Int) (M : List α) : Prop := ∀ i j, i < j → j < M.length → 0 ≤ cf (M.getD j default) (M.getD i default)
theorem getB (M : List α) (i : Nat) : M.toArray[i]! = M.getD i default := by
  rw [getElem!_def]
  simp [List.getD_eq_getElem?_getD]
  cases M[i]? <;> rfl
theorem flatK_list (M : List α) : (flatK R.cells R.k M.toArray).toList = R.flat M := by
  have hp := R.pos
  apply List.ext_getElem?
  intro t
  by_cases ht : t < M.length * R.k
  · have hi : t / R.k < M.length := Nat.div_lt_of_lt_mul (by rw [Nat.mul_comm]; exact ht)
    have hj : t % R.k < R.k := Nat.mod_lt _ hp
    have he : t / R.k * R.k + t % R.k = t := by rw [Nat.mul_comm]; exact Nat.div_add_mod t R.k
    have h1 := get_flatK R.cells R.k M.toArray t (by simpa using ht)
    rw [show M.toArray[t / R.k]! = M.getD (t / R.k) default from getB M _] at h1
    have h2 := R.flat_get M (t / R.k) (t % R.k) hi hj
    rw [he] at h2
    rw [h2, Array.getElem?_toList]
    have hs : t < (flatK R.cells R.k M.toArray).size := by simpa using ht
    rw [getElem!_pos _ t hs] at h1
    rw [Array.getElem?_eq_getElem hs, h1]
    have hl : t % R.k < (R.cells (M.getD (t / R.k) default)).length := by rw [R.len]; exact hj
    rw [List.getElem?_eq_getElem hl, getElem!_pos (R.cells (M.getD (t / R.k) default)) (t % R.k) hl]
  · rw [List.getElem?_eq_none (by simp; omega), List.getElem?_eq_none (by rw [R.flat_length]; omega)]
theorem holds_own {w : World} {base g cap : Nat} {L : List α} (h : R.Own w base (.slice (some ⟨g, 0, none⟩) L.length cap) L) : HoldsK R.cells R.k w g 0 L.toArray := by
  intro j hj
  rcases h.2 with ⟨h2, _⟩ | ⟨g', cap', cur, hv, hg, hh, h3, h4, h5, h6⟩
  · cases h2
  · simp only [Value.slice.injEq, Option.some.injEq, Addr.mk.injEq, and_true, true_and] at hv
    obtain ⟨rfl, rfl⟩ := hv
    have hj' : j < L.length * R.k := by simpa using hj
    refine ⟨?_, free_of hh⟩
    rw [Nat.zero_add, getElem!_pos _ j hj]
    refine cell_of hh ?_
    have h7 : (flatK R.cells R.k L.toArray).toList[j]? = some (flatK R.cells R.k L.toArray)[j] := by rw [Array.getElem?_toList]; exact Array.getElem?_eq_getElem hj
    rw [flatK_list, ← h6, List.getElem?_take, if_pos hj', Array.getElem?_toList] at h7
    exact h7
theorem own_sorted {w : World} {base g cap n : Nat} {L M : List α} {os : Array Obj} (h : R.Own w base (.slice (some ⟨g, 0, none⟩) L.length cap) L) (hl : M.length = L.length) :
    R.Own (sortWorldK R.cells R.k w g 0 n M.toArray os) base (.slice (some ⟨g, 0, none⟩) L.length cap) M ∧ But w (sortWorldK R.cells R.k w g 0 n M.toArray os) [g] ∧ base ≤ g := by
  rcases h.2 with ⟨h2, _⟩ | ⟨g', cap', cur, hv, hg, hh, h3, h4, h5, h6⟩
  · cases h2
  · simp only [Value.slice.injEq, Option.some.injEq, Addr.mk.injEq, and_true, true_and] at hv
    obtain ⟨rfl, rfl⟩ := hv
    have hlt := lt_of_blk hh
    have hsz : ((putRowK R.cells R.k (Sort.ahead w n) g 0 M.toArray)).heap.size = w.heap.size := by unfold putRowK; rw [size_putRow]; rfl
    have hblk : ∀ k, k < w.heap.size → (sortWorldK R.cells R.k w g 0 n M.toArray os).heap[k]? = (putRowK R.cells R.k (Sort.ahead w n) g 0 M.toArray).heap[k]? := fun k hk => by
      show ((putRowK R.cells R.k (Sort.ahead w n) g 0 M.toArray).heap ++ os)[k]? = _
      rw [Array.getElem?_append_left (by omega)]
    have hput : ∀ k, (putRowK R.cells R.k (Sort.ahead w n) g 0 M.toArray).heap[k]? = if g = k then (w.heap[k]?).map (onCells (putCells id 0 (flatK R.cells R.k M.toArray))) else w.heap[k]? := fun k => by
      show (w.heap.modify g (onCells (putCells id 0 (flatK R.cells R.k M.toArray))))[k]? = _
      rw [Array.getElem?_modify]
    refine ⟨⟨by rw [R.flat_length, hl], .inr ⟨g, cap, putCells id 0 (flatK R.cells R.k M.toArray) cur, by rw [hl], hg, ?_, by rw [hl]; exact h3, h4, by simpa [putCells] using h5, ?_⟩⟩, ⟨rfl, rfl, rfl, ?_, fun k hk hn => ?_⟩, hg⟩
    · rw [hblk g hlt, hput, if_pos rfl, hh]
      rfl
    · rw [← flatK_list, hl]
      apply List.ext_getElem?
      intro q
      rw [List.getElem?_take]
      by_cases hq : q < L.length * R.k
      · rw [if_pos hq, Array.getElem?_toList, Array.getElem?_toList]
        have hq2 : q < (flatK R.cells R.k M.toArray).size := by simp [hl]; exact hq
        have hq3 : q < cur.size := by
          rw [h5]
          exact Nat.lt_of_lt_of_le hq (Nat.mul_le_mul_right _ h3)
        simp only [putCells, Array.getElem?_mapIdx, Array.getElem?_eq_getElem hq3, Option.map_some]
        rw [if_pos ⟨Nat.zero_le _, by omega⟩, Array.getElem?_eq_getElem hq2, getElem!_pos _ _ (by simpa using hq2)]
        simp
      · rw [if_neg hq, Array.getElem?_toList, Array.getElem?_eq_none (by simp [hl]; omega)]
    · show w.heap.size ≤ ((putRowK R.cells R.k (Sort.ahead w n) g 0 M.toArray).heap ++ os).size
      rw [Array.size_append, hsz]; omega
    · rw [hblk k hk, hput, if_neg (by simp at hn; omega)]
end Rep
end Go.Proofs.YtadoflcomienoaaGreat
/- Updates of prefixes that go, as the program tells. -/
namespace Go.Proofs.YtadoflcomienoaaGreat
open Go.RowKit

theorem Rep.Sl.none_zero {α : Type} [Inhabited α] {R : Rep α} {w : World} {a : Option Addr} {n c : Nat} {L : List α} (h : R.Sl w a n c L) (e : a = none) : n = 0 := by
  rcases Nat.eq_zero_or_pos n with h0 | h0
  · exact h0
  · obtain ⟨b, o, e2, -⟩ := h.row h0
    rw [e] at e2; cases e2
end Go.Proofs.YtadoflcomienoaaGreat
/- A thing stored into an owned slice, in place. -/
namespace Go.Proofs.YtadoflcomienoaaGreat
open Go.RowKit
namespace Rep
variable {α : Type} [Inhabited α] {R : Rep α}
theorem getD_set (L : List α) (k i : Nat) (y : α) (hi : i < L.length) : (L.set k y).getD i default = if i = k then y else L.getD i default := by
  simp only [List.getD_eq_getElem?_getD, List.getElem?_set]
  by_cases e : k = i
  · subst e; simp [hi]
  · rw [if_neg e, if_neg (Ne.symm e)]
theorem flat_set_get (L : List α) (k q : Nat) (y : α) (hk : k < L.length) (hq : q < L.length * R.k) : (R.flat (L.set k y))[q]? = if k * R.k ≤ q ∧ q < k * R.k + R.k then (R.cells y)[q - k * R.k]? else (R.flat L)[q]? := by
  have hp := R.pos
  have hi : q / R.k < L.length := Nat.div_lt_of_lt_mul (by rw [Nat.mul_comm]; exact hq)
  have hj : q % R.k < R.k := Nat.mod_lt _ hp
  have he : q / R.k * R.k + q % R.k = q := by rw [Nat.mul_comm]; exact Nat.div_add_mod q R.k
  generalize q / R.k = i at *
  generalize q % R.k = j at *
  subst he
  rw [R.flat_get _ i j (by rw [List.length_set]; exact hi) hj, R.flat_get _ i j hi hj, getD_set L k i y hi]
  by_cases e : i = k
  · subst e
    rw [if_pos rfl, if_pos ⟨by omega, by omega⟩, show i * R.k + j - i * R.k = j by omega]
  · rw [if_neg e, if_neg]
    rintro ⟨h1, h2⟩
    rcases Nat.lt_or_gt_of_ne e with h | h
    · have := Nat.mul_le_mul_right R.k h; rw [Nat.succ_mul] at this; omega
    · have := Nat.mul_le_mul_right R.k h; rw [Nat.succ_mul] at this; omega
theorem own_set {w w' : World} {base g cap n : Nat} {L : List α} (h : R.Own w base (.slice (some ⟨g, 0, none⟩) n cap) L) {k : Nat} (hk : k < n) (y : α) {cur cur' : Array Value} (hc : w.heap[g]? = some (.cells cur R.T (0, 0))) (hset : w'.heap[g]? = some (.cells cur' R.T (0, 0)))
    (hsz : cur'.size = cur.size) (hcur : ∀ q, cur'[q]? = if k * R.k ≤ q ∧ q < k * R.k + R.k then (R.cells y)[q - k * R.k]? else cur[q]?) : R.Own w' base (.slice (some ⟨g, 0, none⟩) n cap) (L.set k y) := by
  obtain ⟨h1, h2⟩ := h
  rcases h2 with ⟨h2, _⟩ | ⟨g', cap', c0, hv, hg, hh, h3, h4, h5, h6⟩
  · cases h2
  · simp only [Value.slice.injEq, Option.some.injEq, Addr.mk.injEq, and_true] at hv
    obtain ⟨rfl, rfl, rfl⟩ := hv
    rw [hh] at hc
    simp only [Option.some.injEq, Obj.cells.injEq, and_true] at hc
    subst hc
    refine ⟨by rw [R.flat_length], .inr ⟨g, cap, cur', by rw [List.length_set], hg, hset, by rw [List.length_set]; exact h3, h4, by rw [hsz]; exact h5, ?_⟩⟩
    rw [List.length_set]
    apply List.ext_getElem?
    intro q
    rw [List.getElem?_take]
    by_cases hq : q < L.length * R.k
    · rw [if_pos hq, flat_set_get L k q y hk hq, Array.getElem?_toList, hcur]
      split
      · rfl
      · rw [← h6, List.getElem?_take, if_pos hq, Array.getElem?_toList]
    · rw [if_neg hq, List.getElem?_eq_none (by rw [R.flat_length, List.length_set]; omega)]
end Rep
end Go.Proofs.YtadoflcomienoaaGreat
