/- What is said, in memory; attributes and updates that hold whatever becomes of a block. -/
import Derived.Test.YtadoflcomienoaaQal
import Derived.Test.YtadoflcomienoaaQad
import Derived.Test.YtadoflcomienoaaQab
import Derived.Test.YtadoflcomienoaaQag
namespace Go.Proofs.Ytadoflcomienoaa
open Go.RowKit

structure SyV where
  k : PK
  a : AtV
deriving Inhabited
def SyV.sy (x : SyV) : Sy := ⟨x.k, x.a.at⟩
def SyV.v (x : SyV) : Value := .agg #[.int .u32 (x.k.1 : Int), .int .i64 x.k.2, .int .i64 x.a.o, .slice x.a.p.a x.a.p.n x.a.p.c, .int .u32 x.a.nx, .int .i64 x.a.md, .int .i64 x.a.pf, .slice x.a.c.a x.a.c.n x.a.c.c]
def RSy : Rep SyV := ⟨35, 8, by decide, fun x => [.int .u32 (x.k.1 : Int), .int .i64 x.k.2, .int .i64 x.a.o, .slice x.a.p.a x.a.p.n x.a.p.c, .int .u32 x.a.nx, .int .i64 x.a.md, .int .i64 x.a.pf, .slice x.a.c.a x.a.c.n x.a.c.c], fun _ => rfl, fun _ => rfl⟩
theorem TSy : Rep.Ty Try.prog 30 RSy 96 := Rep.Ty.mk' Try.underlying30 (z := .agg #[.int .u32 0, .int .i64 0, .int .i64 0, .slice none 0 0, .int .u32 0, .int .i64 0, .int .i64 0, .slice none 0 0]) (by kernel_rfl) rfl
theorem TUp : Rep.Ty Try.prog 36 RUp 136 := Rep.Ty.mk' Try.underlying36 (z := .agg #[.slice none 0 0, .slice none 0 0, .int .i64 0, .slice none 0 0, .int .u32 0, .int .i64 0, .int .i64 0, .slice none 0 0, .bool false]) (by kernel_rfl) rfl
structure SyOk (w : World) (x : SyV) : Prop where
  k : x.k.1 < 4294967296 ∧ I64 x.k.2
  a : AtOk w x.a
theorem SyOk.keep {w w' : World} {x : SyV} (h : SyOk w x) (hb : Below w.heap.size w w') : SyOk w' x := ⟨h.k, h.a.keep hb⟩
theorem SlOk.keepY {w w' : World} {s : SlV SyV} (h : SlOk RSy SyOk w s) (hb : Below w.heap.size w w') : SlOk RSy SyOk w' s := h.keep hb fun _ _ h => h.keep hb
theorem SlOk.keepU {w w' : World} {s : SlV UpV} (h : SlOk RUp UpOk w s) (hb : Below w.heap.size w w') : SlOk RUp UpOk w' s := h.keep hb fun _ _ h => h.keep hb
def BxY (q : Nat) (x : SyV) (W : World) : Prop := W.heap[q]? = some (.cells #[.int .u32 (x.k.1 : Int), .int .i64 x.k.2, .int .i64 x.a.o, .slice x.a.p.a x.a.p.n x.a.p.c, .int .u32 x.a.nx, .int .i64 x.a.md, .int .i64 x.a.pf, .slice x.a.c.a x.a.c.n x.a.c.c] 35)
theorem BxY.keep {q : Nat} {x : SyV} {W W' : World} (h : BxY q x W) (hb : Below W.heap.size W W') : BxY q x W' := (hb.block _ (lt_of_blk h)).trans h
theorem BxY.cells {q : Nat} {x : SyV} {W : World} (h : BxY q x W) : W.cell? ⟨q, 0, none⟩ = some (.int .u32 (x.k.1 : Int)) ∧ W.cell? ⟨q, 1, none⟩ = some (.int .i64 x.k.2) ∧ W.cell? ⟨q, 2, none⟩ = some (.int .i64 x.a.o) ∧ W.cell? ⟨q, 3, none⟩ = some (.slice x.a.p.a x.a.p.n x.a.p.c) ∧ W.cell? ⟨q, 4, none⟩ = some (.int .u32 x.a.nx) ∧ W.cell? ⟨q, 5, none⟩ = some (.int .i64 x.a.md) ∧ W.cell? ⟨q, 6, none⟩ = some (.int .i64 x.a.pf) ∧ W.cell? ⟨q, 7, none⟩ = some (.slice x.a.c.a x.a.c.n x.a.c.c) := ⟨cell_of h rfl, cell_of h rfl, cell_of h rfl, cell_of h rfl, cell_of h rfl, cell_of h rfl, cell_of h rfl, cell_of h rfl⟩

/-- none of it lies in a block -/
def FarS {α : Type} (g : Option Nat) (s : SlV α) : Prop := 0 < s.n → ∀ a, s.a = some a → some a.block ≠ g
theorem SlOk.firm {α : Type} [Inhabited α] {R : Rep α} {ok : World → α → Prop} {g : Option Nat} {w : World} {s : SlV α} (h : SlOk R ok w s) (hg : FarS g s) (hP : ∀ x ∈ s.l, Firm g w fun W => ok W x) : Firm g w fun W => SlOk R ok W s := fun w' h' =>
  ⟨Firm.sl h.sl hg w' h', h.nil, h.nc, h.cm, fun x hx => hP x hx w' h'⟩
theorem SlOk.firmI {g : Option Nat} {w : World} {s : SlV Int} (h : SlOk RI OkI w s) (hg : FarS g s) : Firm g w fun W => SlOk RI OkI W s := h.firm hg fun _ hx _ _ => h.all _ hx
theorem SlOk.firmN {g : Option Nat} {w : World} {s : SlV Nl} (h : SlOk RNl NlOk w s) (hg : FarS g s) : Firm g w fun W => SlOk RNl NlOk W s := h.firm hg fun _ hx _ _ => h.all _ hx
structure FarA (g : Option Nat) (x : AtV) : Prop where
  p : FarS g x.p
  c : FarS g x.c
  s : ∀ y ∈ x.p.l, FarS g y.s
theorem AtOk.firm {g : Option Nat} {w : World} {x : AtV} (h : AtOk w x) (hg : FarA g x) : Firm g w fun W => AtOk W x := fun w' h' =>
  ⟨SlOk.firm (ok := SgOk) h.p hg.p (fun y hy => SlOk.firmI (h.p.all y hy) (hg.s y hy)) w' h', h.c.firmI hg.c w' h', h.o, h.nx, h.md, h.pf⟩
theorem UpOk.firm {g : Option Nat} {w : World} {x : UpV} (h : UpOk w x) (h1 : FarS g x.g) (h2 : FarS g x.r) (h3 : Firm g w fun W => AtOk W x.a) : Firm g w fun W => UpOk W x := fun w' h' =>
  ⟨h.g.firmN h1 w' h', h.r.firmN h2 w' h', h3 w' h'⟩
theorem SyOk.firm {g : Option Nat} {w : World} {x : SyV} (h : SyOk w x) (h3 : Firm g w fun W => AtOk W x.a) : Firm g w fun W => SyOk W x := fun w' h' => ⟨h.k, h3 w' h'⟩
theorem FarS.none {α : Type} {g : Option Nat} {n c : Nat} {l : List α} : FarS g ⟨Option.none, n, c, l⟩ := fun _ _ h => by cases h
/-- it lies in blocks from a number on -/
def NewS {α : Type} (B : Nat) (s : SlV α) : Prop := 0 < s.n → ∀ a, s.a = some a → B ≤ a.block
structure NewA (B : Nat) (x : AtV) : Prop where
  p : NewS B x.p
  c : NewS B x.c
  s : ∀ y ∈ x.p.l, NewS B y.s
theorem NewS.far {α : Type} {B : Nat} {s : SlV α} {g : Option Nat} (h : NewS B s) (hg : ∀ k, g = some k → k < B) : FarS g s := fun hn a e e2 => by have := h hn a e; have := hg _ e2.symm; omega
theorem NewA.far {B : Nat} {x : AtV} {g : Option Nat} (h : NewA B x) (hg : ∀ k, g = some k → k < B) : FarA g x := ⟨h.p.far hg, h.c.far hg, fun y hy => (h.s y hy).far hg⟩
/-- an owned slice, as one that is read -/
theorem Own_slok {α : Type} [Inhabited α] {R : Rep α} {ok : World → α → Prop} {w : World} {base : Nat} {v : Value} {L : List α} (h : R.Own w base v L) (hok : ∀ x ∈ L, ok w x) : ∃ s : SlV α, v = .slice s.a s.n s.c ∧ s.l = L ∧ SlOk R ok w s ∧ NewS base s ∧ (∀ a, s.a = some a → v.ownBlock = some a.block) := by
  rcases h.cases with ⟨rfl, rfl⟩ | ⟨g, cap, rfl, hg, hl, h1, h2, hr, -⟩
  · exact ⟨⟨none, 0, 0, []⟩, rfl, rfl, slZ, (fun _ _ e => by cases e), fun _ e => by cases e⟩
  · exact ⟨⟨some ⟨g, 0, none⟩, L.length, cap, L⟩, rfl, rfl, ⟨⟨rfl, by show L.length ≤ maxLen; omega, fun _ => ⟨g, 0, rfl, hr⟩⟩, (fun e => by cases e), h1, h2, hok⟩, (fun _ a e => by cases e; exact hg), fun a e => by cases e; rfl⟩
theorem OwnP.slok {α : Type} [Inhabited α] {R : Rep α} {ok : World → α → Prop} {w : World} {base : Nat} {v : Value} {L : List α} (h : OwnP R ok w base v L) : ∃ s : SlV α, v = .slice s.a s.n s.c ∧ s.l = L ∧ SlOk R ok w s ∧ NewS base s ∧ (∀ a, s.a = some a → v.ownBlock = some a.block) := Own_slok h.own fun x hx => (h.el x hx).now
/-- it lies ahead of a number, or from another one on -/
def LowS {α : Type} (B : Nat) (s : SlV α) : Prop := 0 < s.n → ∀ a, s.a = some a → a.block < B
structure LowA (B : Nat) (x : AtV) : Prop where
  p : LowS B x.p
  c : LowS B x.c
  s : ∀ y ∈ x.p.l, LowS B y.s
theorem SlOk.low {α : Type} [Inhabited α] {R : Rep α} {ok : World → α → Prop} {w : World} {s : SlV α} (h : SlOk R ok w s) : LowS w.heap.size s := fun hn a e => by
  obtain ⟨b, o, e2, r⟩ := h.sl.row hn
  rw [e] at e2
  injection e2 with e2
  rw [e2]
  exact r.lt
theorem AtOk.low {w : World} {x : AtV} (h : AtOk w x) : LowA w.heap.size x := ⟨h.p.low, h.c.low, fun y hy => SlOk.low (h.p.all y hy)⟩
def ApS {α : Type} (lo hi : Nat) (s : SlV α) : Prop := 0 < s.n → ∀ a, s.a = some a → a.block < lo ∨ hi ≤ a.block
structure ApA (lo hi : Nat) (x : AtV) : Prop where
  p : ApS lo hi x.p
  c : ApS lo hi x.c
  s : ∀ y ∈ x.p.l, ApS lo hi y.s
structure ApU (lo hi : Nat) (x : UpV) : Prop where
  g : ApS lo hi x.g
  r : ApS lo hi x.r
  a : ApA lo hi x.a
theorem LowS.ap {α : Type} {lo hi : Nat} {s : SlV α} (h : LowS lo s) : ApS lo hi s := fun hn a e => .inl (h hn a e)
theorem LowA.ap {lo hi : Nat} {x : AtV} (h : LowA lo x) : ApA lo hi x := ⟨h.p.ap, h.c.ap, fun y hy => (h.s y hy).ap⟩
theorem NewS.ap {α : Type} {lo hi B : Nat} {s : SlV α} (h : NewS B s) (hB : hi ≤ B) : ApS lo hi s := fun hn a e => .inr (Nat.le_trans hB (h hn a e))
theorem NewA.ap {lo hi B : Nat} {x : AtV} (h : NewA B x) (hB : hi ≤ B) : ApA lo hi x := ⟨h.p.ap hB, h.c.ap hB, fun y hy => (h.s y hy).ap hB⟩
theorem ApS.none {α : Type} {lo hi n c : Nat} {l : List α} : ApS lo hi ⟨Option.none, n, c, l⟩ := fun _ _ h => by cases h
theorem ApS.far {α : Type} {lo hi : Nat} {s : SlV α} {g : Option Nat} (h : ApS lo hi s) (hg : ∀ k, g = some k → lo ≤ k ∧ k < hi) : FarS g s := fun hn a e e2 => by
  have h1 := hg _ e2.symm
  rcases h hn a e with h2 | h2 <;> omega
theorem ApA.far {lo hi : Nat} {x : AtV} {g : Option Nat} (h : ApA lo hi x) (hg : ∀ k, g = some k → lo ≤ k ∧ k < hi) : FarA g x := ⟨h.p.far hg, h.c.far hg, fun y hy => (h.s y hy).far hg⟩
theorem ApU.firm {lo hi : Nat} {x : UpV} {g : Option Nat} {w : World} (h : ApU lo hi x) (hg : ∀ k, g = some k → lo ≤ k ∧ k < hi) (hu : UpOk w x) : Firm g w fun W => UpOk W x := hu.firm (h.g.far hg) (h.r.far hg) (hu.a.firm (h.a.far hg))
end Go.Proofs.Ytadoflcomienoaa
/- Plain law: rounds of updates, one of each key, how many updates there are. -/
namespace Go.Proofs.Ytadoflcomienoaa
open Go.RowKit

theorem chunksI_len {α : Type} {f : List α → Nat} (hf : ∀ l, l ≠ [] → 1 ≤ f l) {n : Nat} {l : List α} (h : l.length ≤ n) : chunksI f n l = chunksI f l.length l := chunksI_more hf _ _ _ h (Nat.le_refl _)
theorem chunksI_step {α : Type} {f : List α → Nat} (hf : ∀ l, l ≠ [] → 1 ≤ f l) {l : List α} (h : l ≠ []) : chunksI f l.length l = l.take (f l) :: chunksI f (l.drop (f l)).length (l.drop (f l)) := by
  have h1 := hf l h
  obtain ⟨n, hn⟩ : ∃ n, l.length = n + 1 := ⟨l.length - 1, by have := List.length_pos_iff.2 h; omega⟩
  rw [hn, chunksI_cons f n h, chunksI_len hf (by rw [List.length_drop]; omega)]
theorem chunksI_count {α : Type} {f : List α → Nat} {F : Nat} (hF : 1 ≤ F) (hf : ∀ l, f l = min F l.length) : ∀ (n : Nat) (l : List α), l.length ≤ n → (chunksI f n l).length = (l.length + F - 1) / F
  | 0, l, h => by
    obtain rfl := List.length_eq_zero_iff.1 (Nat.le_zero.1 h)
    simp only [chunksI_nil, List.length_nil]
    rw [Nat.div_eq_of_lt (by omega)]
  | n + 1, l, h => by
    by_cases hl : l = []
    · subst hl
      simp only [chunksI_nil, List.length_nil]
      rw [Nat.div_eq_of_lt (by omega)]
    · have hp := List.length_pos_iff.2 hl
      rw [chunksI_cons f n hl, List.length_cons, chunksI_count hF hf n _ (by rw [List.length_drop, hf]; omega), List.length_drop, hf]
      by_cases h1 : F ≤ l.length
      · rw [Nat.min_eq_left h1, show l.length + F - 1 = (l.length - F + F - 1) + F by omega, Nat.add_div_right _ (by omega)]
      · rw [Nat.min_eq_right (by omega), Nat.sub_self, Nat.div_eq_of_lt (by omega)]
        have : (l.length + F - 1) / F = 1 := by
          rw [show l.length + F - 1 = (l.length - 1) + F by omega, Nat.add_div_right _ (by omega), Nat.div_eq_of_lt (by omega)]
        omega
theorem szs_const {sz : Nl → Nat} {s : Nat} : ∀ {L : List Nl}, (∀ x ∈ L, sz x = s) → szs sz L = L.length * s
  | [], _ => by simp [szs]
  | x :: r, h => by
    have ih := szs_const (L := r) fun y hy => h y (List.mem_cons_of_mem _ hy)
    unfold szs at *
    rw [List.map_cons, List.sum_cons, ih, h x List.mem_cons_self, List.length_cons, Nat.succ_mul]
    omega
theorem fitI_const {sz : Nl → Nat} {s : Nat} (hs : 0 < s) {L : List Nl} (h : ∀ x ∈ L, sz x = s) (room cap : Nat) : fitI sz room cap L = min (min (room / s) cap) L.length := by
  have ht : ∀ n, n ≤ L.length → szs sz (L.take n) = n * s := fun n hn => by
    rw [szs_const (s := s) (fun x hx => h x (List.mem_of_mem_take hx)), List.length_take, Nat.min_eq_left hn]
  refine fitI_is (by omega) (by omega) ?_ ?_
  · rw [ht _ (by omega)]
    exact Nat.le_trans (Nat.mul_le_mul_right s (show min (min (room / s) cap) L.length ≤ room / s by omega)) (Nat.div_mul_le_self room s)
  · intro h1 h2
    rw [ht _ (by omega)]
    have h3 : room / s < min (min (room / s) cap) L.length + 1 := by omega
    exact (Nat.div_lt_iff_lt_mul hs).1 h3

/-- the rounds of what comes -/
theorem comeI_more {sz : Nl → Nat} {asz : At → Nat} : ∀ (n m : Nat) (L : List Sy), L.length ≤ n → L.length ≤ m → comeI sz asz n L = comeI sz asz m L
  | 0, m, L, h, _ => by
    obtain rfl := List.length_eq_zero_iff.1 (Nat.le_zero.1 h)
    rw [comeI_nil, comeI_nil]
  | n + 1, 0, L, _, h => by
    obtain rfl := List.length_eq_zero_iff.1 (Nat.le_zero.1 h)
    rw [comeI_nil, comeI_nil]
  | n + 1, m + 1, [], _, _ => rfl
  | n + 1, m + 1, s :: r, h1, h2 => by
    have hlt : ((s :: r).filter fun t => !decide (t.a = s.a)).length ≤ r.length := by
      rw [List.filter_cons, if_neg (by simp)]
      exact List.length_filter_le _ r
    simp only [List.length_cons] at h1 h2
    unfold comeI
    rw [comeI_more n m _ (by omega) (by omega)]
def sameI (a : At) (L : List Sy) : List Nl := (L.filter fun t => decide (t.a = a)).map Sy.nl
def restI (a : At) (L : List Sy) : List Sy := L.filter fun t => !decide (t.a = a)
def fitA (sz : Nl → Nat) (asz : At → Nat) (a : At) : List Nl → Nat := fitI sz (4073 - asz a) 1024
def mkR (a : At) (l : List Nl) : Up := ⟨[], l, a, false⟩
def mkG (l : List Nl) : Up := ⟨l, [], atZ, false⟩
theorem comeI_step {sz : Nl → Nat} {asz : At → Nat} {L : List Sy} {s : Sy} {r : List Sy} (h : L = s :: r) : comeI sz asz L.length L = (chunksI (fitA sz asz s.a) (sameI s.a L).length (sameI s.a L)).map (mkR s.a) ++ comeI sz asz (restI s.a L).length (restI s.a L) := by
  subst h
  have hlt : (restI s.a (s :: r)).length ≤ r.length := by
    unfold restI
    rw [List.filter_cons, if_neg (by simp)]
    exact List.length_filter_le _ r
  rw [comeI_more (restI s.a (s :: r)).length r.length _ (Nat.le_refl _) hlt]
  unfold sameI
  rw [List.length_map]
  rfl
theorem restI_lt {L : List Sy} {s : Sy} {r : List Sy} (h : L = s :: r) : (restI s.a L).length < L.length := by
  subst h
  have hlt : (restI s.a (s :: r)).length ≤ r.length := by
    unfold restI
    rw [List.filter_cons, if_neg (by simp)]
    exact List.length_filter_le _ r
  simp only [List.length_cons]
  omega
theorem goneI_is (sz : Nl → Nat) (L : List Nl) : goneI sz L = (chunksI (fitI sz 4073 1024) L.length L).map mkG := rfl

section
variable {β : Type} (key : β → PK)
/-- the first one of each key -/
def firstsK (L : List β) : List β := L.foldl (fun M x => if (Kl.look key M (key x)).isSome then M else M ++ [x]) []
variable {key}
theorem firstsK_succ {L : List β} {i : Nat} (h : i < L.length) : firstsK key (L.take (i + 1)) = if (Kl.look key (firstsK key (L.take i)) (key L[i])).isSome then firstsK key (L.take i) else firstsK key (L.take i) ++ [L[i]] := by
  unfold firstsK
  rw [List.take_succ_eq_append_getElem h, List.foldl_append]
  rfl
theorem look_cons (x : β) (L : List β) (k : PK) : Kl.look key (x :: L) k = if key x = k then some x else Kl.look key L k := by
  unfold Kl.look
  rw [List.find?_cons]
  by_cases h : key x = k
  · simp [h]
  · simp [h]
theorem firstsK_spec (L : List β) : ((firstsK key L).map key).Nodup ∧ (∀ k, Kl.look key (firstsK key L) k = Kl.look key L k) ∧ (∀ x ∈ firstsK key L, x ∈ L) ∧ (firstsK key L).length ≤ L.length := by
  have : ∀ (L M : List β), (M.map key).Nodup → ((L.foldl (fun M x => if (Kl.look key M (key x)).isSome then M else M ++ [x]) M).map key).Nodup ∧ (∀ k, Kl.look key (L.foldl (fun M x => if (Kl.look key M (key x)).isSome then M else M ++ [x]) M) k = Kl.look key (M ++ L) k) ∧ (∀ x ∈ L.foldl (fun M x => if (Kl.look key M (key x)).isSome then M else M ++ [x]) M, x ∈ M ++ L) ∧ (L.foldl (fun M x => if (Kl.look key M (key x)).isSome then M else M ++ [x]) M).length ≤ (M ++ L).length := by
    intro L
    induction L with
    | nil => intro M h; simpa using h
    | cons x r ih =>
      intro M hn
      rw [List.foldl_cons]
      cases hl : Kl.look key M (key x) with
      | some y =>
        rw [if_pos (by rw [Option.isSome_some])]
        obtain ⟨a, b, c, d⟩ := ih M hn
        refine ⟨a, fun k => ?_, fun z hz => ?_, ?_⟩
        · rw [b, Kl.look_append, Kl.look_append, look_cons]
          by_cases hk : key x = k
          · subst hk; rw [hl]; rfl
          · rw [if_neg hk]
        · have := c z hz
          simp only [List.mem_append, List.mem_cons] at this ⊢
          rcases this with h | h
          · exact .inl h
          · exact .inr (.inr h)
        · simp only [List.length_append, List.length_cons] at d ⊢
          omega
      | none =>
        rw [if_neg (by simp)]
        have hn' : ((M ++ [x]).map key).Nodup := by
          rw [List.map_append, List.nodup_append]
          refine ⟨hn, by simp, ?_⟩
          intro a ha b hb e
          obtain ⟨y, hy, rfl⟩ := List.mem_map.1 ha
          simp at hb
          exact Kl.look_none hl hy (e.trans hb)
        obtain ⟨a, b, c, d⟩ := ih (M ++ [x]) hn'
        rw [List.append_assoc, List.singleton_append] at b c d
        exact ⟨a, b, c, d⟩
  have h := this L [] List.nodup_nil
  rw [List.nil_append] at h
  exact h
theorem firstsK_self {L : List β} (h : (L.map key).Nodup) : firstsK key L = L := by
  have : ∀ i, i ≤ L.length → firstsK key (L.take i) = L.take i := by
    intro i
    induction i with
    | zero => intro _; rfl
    | succ i ih =>
      intro hi
      rw [firstsK_succ (by omega), ih (by omega)]
      have hnone : Kl.look key (L.take i) (key L[i]) = none := by
        refine Kl.look_no fun x hx e => ?_
        obtain ⟨j, hj, rfl⟩ := List.getElem_of_mem hx
        rw [List.getElem_take] at e
        rw [List.length_take] at hj
        have h2 := List.nodup_iff_pairwise_ne.1 h
        rw [List.pairwise_map] at h2
        exact List.pairwise_iff_getElem.1 h2 j i (by omega) (by omega) (by omega) e
      rw [hnone, if_neg (by simp), List.take_succ_eq_append_getElem (by omega)]
  have h2 := this L.length (Nat.le_refl _)
  rwa [List.take_length] at h2
theorem firstsK_len {L : List β} : (firstsK key L).length < L.length ↔ ¬ (L.map key).Nodup := by
  constructor
  · intro h hn
    rw [firstsK_self hn] at h
    exact Nat.lt_irrefl _ h
  · intro hn
    obtain ⟨a, b, c, d⟩ := firstsK_spec (key := key) L
    rcases Nat.lt_or_ge (firstsK key L).length L.length with h | h
    · exact h
    · refine absurd ?_ hn
      have : ∀ i, i ≤ L.length → (firstsK key (L.take i)).length ≤ i := fun i hi => by
        have := (firstsK_spec (key := key) (L.take i)).2.2.2
        rw [List.length_take] at this
        omega
      -- as many as there are: none was left out
      have h3 : ∀ j i, j + i = L.length → firstsK key (L.take i) = L.take i := by
        intro j
        have hdrop : ∀ j i, j + i = L.length → (firstsK key (L.take i)).length = i := by
          intro j
          induction j with
          | zero =>
            intro i hi
            obtain rfl : i = L.length := by omega
            rw [List.take_length]
            omega
          | succ j ih =>
            intro i hi
            have h4 := ih (i + 1) (by omega)
            rw [firstsK_succ (by omega)] at h4
            have h5 := this i (by omega)
            split at h4
            · omega
            · simp only [List.length_append, List.length_singleton] at h4; omega
        have hup : ∀ i, i ≤ L.length → firstsK key (L.take i) = L.take i := by
          intro i
          induction i with
          | zero => intro _; rfl
          | succ i ih =>
            intro hi
            have h4 := hdrop (L.length - (i + 1)) (i + 1) (by omega)
            have h5 := ih (by omega)
            rw [firstsK_succ (by omega)] at h4 ⊢
            split at h4
            · rw [h5, List.length_take] at h4; omega
            · rename_i hs
              rw [if_neg hs, h5, List.take_succ_eq_append_getElem (by omega)]
        exact fun i hi => hup i (by omega)
      have h6 := h3 0 L.length (by omega)
      rw [List.take_length] at h6
      rw [← h6]
      exact a
theorem firstsK_map {γ : Type} (f : β → γ) {key' : γ → PK} (hf : ∀ x, key' (f x) = key x) (L : List β) : (firstsK key L).map f = firstsK key' (L.map f) := by
  have hlook : ∀ (M : List β) (k : PK), (Kl.look key' (M.map f) k) = (Kl.look key M k).map f := by
    intro M k
    induction M with
    | nil => rfl
    | cons x r ih =>
      rw [List.map_cons, look_cons, look_cons, hf, ih]
      split <;> rfl
  have : ∀ (L M : List β), (L.foldl (fun M x => if (Kl.look key M (key x)).isSome then M else M ++ [x]) M).map f = (L.map f).foldl (fun M x => if (Kl.look key' M (key' x)).isSome then M else M ++ [x]) (M.map f) := by
    intro L
    induction L with
    | nil => intro M; rfl
    | cons x r ih =>
      intro M
      rw [List.foldl_cons, ih, List.map_cons, List.foldl_cons, hlook, hf, Option.isSome_map]
      split
      · rfl
      · rw [List.map_append]; rfl
  exact this L []
end
theorem look_map {β γ : Type} {key : β → PK} (f : β → γ) {key' : γ → PK} (hf : ∀ x, key' (f x) = key x) (M : List β) (k : PK) : (Kl.look key' (M.map f) k) = (Kl.look key M k).map f := by
  induction M with
  | nil => rfl
  | cons x r ih =>
    rw [List.map_cons, look_cons, look_cons, hf, ih]
    split <;> rfl
/-- may it be said -/
def okY (four : Bool) (L : List Sy) : Bool := (L.all fun s => okP s.k.1 s.k.2 && okA four s.a) && decide ((L.map Sy.k).Nodup)
theorem lookA_eq {L M : List Sy} (h : lookA L = lookA M) : ∀ k, Kl.look Sy.k L k = Kl.look Sy.k M k := by
  intro k
  have h1 := congrFun h k
  unfold lookA at h1
  cases h2 : Kl.look Sy.k L k with
  | none =>
    rw [h2] at h1
    cases h3 : Kl.look Sy.k M k with
    | none => rfl
    | some y => rw [h3] at h1; cases h1
  | some x =>
    rw [h2] at h1
    cases h3 : Kl.look Sy.k M k with
    | none => rw [h3] at h1; cases h1
    | some y =>
      rw [h3] at h1
      obtain ⟨-, e1⟩ := Kl.look_mem h2
      obtain ⟨-, e2⟩ := Kl.look_mem h3
      obtain ⟨k1, a1⟩ := x
      obtain ⟨k2, a2⟩ := y
      simp at h1 e1 e2
      rw [h1, e1, e2]
/-- two that say the same, in order -/
theorem sorted_eq {L M : List Sy} (hL : Kl.Ordered (ltB Sy.k) L) (hM : (M.map Sy.k).Nodup) (h : lookA L = lookA M) : L = sortK Sy.k M :=
  ordered_look hL (sortK_ord hM) fun k => by rw [lookA_eq h, look_sortK hM]
end Go.Proofs.Ytadoflcomienoaa
/- How many prefixes fit, as the reference tells: the walk. -/
namespace Go.Proofs.Ytadoflcomienoaa
open Go.RowKit

theorem Rep.At.range {α : Type} [Inhabited α] {R : Rep α} {W : World} {b o : Nat} {z : α} (h : R.At W b o z) : W.rangeAt b o (R.cells z) := by
  intro j v hv
  have hj : j < R.k := by rw [← R.len z]; exact (List.getElem?_eq_some_iff.1 hv).1
  exact (h j hj).trans hv
theorem range_box {W : World} {q : Nat} {cs : Array Value} {T : TypeId} {fr : Nat × Nat} (h : W.heap[q]? = some (.cells cs T fr)) : W.rangeAt q 0 cs.toList := by
  intro j v hv
  rw [Nat.zero_add]
  exact cell_of h (by simpa using hv)
structure FtS (q : Nat) (w0 : World) (x : AtV) (s : SlV Nl) (W : World) : Prop where
  bx : BxA q x W
  s : SlOk RNl NlOk W s
  a : AtOk W x
  old : Below w0.heap.size w0 W
theorem FtS.keep {q : Nat} {w0 : World} {x : AtV} {s : SlV Nl} {W W' : World} (h : FtS q w0 x s W) (hb : Below W.heap.size W W') : FtS q w0 x s W' := ⟨h.bx.keep hb, h.s.keepN hb, h.a.keep hb, bcall h.old (Nat.le_refl _) hb⟩
end Go.Proofs.Ytadoflcomienoaa
/- Where a prefix stands; which lists are the same, which are too large, as the reference tells. -/
namespace Go.Proofs.Ytadoflcomienoaa
open Go.RowKit

/-- an element that lies where a world had it -/
structure ElS {α : Type} [Inhabited α] (R : Rep α) (w0 : World) (b o : Nat) (x : α) (W : World) : Prop where
  at' : R.At W b o x
  lt : b < w0.heap.size
  old : Below w0.heap.size w0 W
theorem ElS.keep {α : Type} [Inhabited α] {R : Rep α} {w0 : World} {b o : Nat} {x : α} {W W' : World} (h : ElS R w0 b o x W) (hb : Below W.heap.size W W') : ElS R w0 b o x W' := ⟨h.at'.keep (hb.block _ (Nat.lt_of_lt_of_le h.lt h.old.size)), h.lt, bcall h.old (Nat.le_refl _) hb⟩
theorem ElS.begin {α : Type} [Inhabited α] {R : Rep α} {w0 : World} {b o : Nat} {x : α} (h : R.At w0 b o x) (hl : b < w0.heap.size) : ElS R w0 b o x w0 := ⟨h, hl, Below.refl _ _⟩
structure El2 {α : Type} [Inhabited α] (R : Rep α) (w0 : World) (b o : Nat) (x : α) (c p : Nat) (y : α) (W : World) : Prop where
  l : ElS R w0 b o x W
  r : ElS R w0 c p y W
theorem El2.keep {α : Type} [Inhabited α] {R : Rep α} {w0 : World} {b o c p : Nat} {x y : α} {W W' : World} (h : El2 R w0 b o x c p y W) (hb : Below W.heap.size W W') : El2 R w0 b o x c p y W' := ⟨h.l.keep hb, h.r.keep hb⟩
theorem Rep.At.yP {W : World} {b o : Nat} {x : SyV} (h : RSy.At W b o x) : W.rangeAt b o [.int .u32 (x.k.1 : Int), .int .i64 x.k.2] := by
  intro j v hv
  match j, hv with
  | 0, hv => exact (h 0 (by decide)).trans (by simpa [RSy] using hv)
  | 1, hv => exact (h 1 (by decide)).trans (by simpa [RSy] using hv)
theorem Rep.At.yA {W : World} {b o : Nat} {x : SyV} (h : RSy.At W b o x) : W.rangeAt b (o + 2) [.int .i64 x.a.o, .slice x.a.p.a x.a.p.n x.a.p.c, .int .u32 x.a.nx, .int .i64 x.a.md, .int .i64 x.a.pf, .slice x.a.c.a x.a.c.n x.a.c.c] := by
  intro j v hv
  have hj : j < 6 := (List.getElem?_eq_some_iff.1 hv).1
  have h1 := h (2 + j) (by show 2 + j < 8; omega)
  rw [← Nat.add_assoc] at h1
  rw [h1, ← hv]
  simp only [RSy]
  rw [Nat.add_comm 2 j, List.getElem?_cons_succ, List.getElem?_cons_succ]
theorem pk_ne {x k : PK} (h : x ≠ k) : ((x.1 : Int) == (k.1 : Int)) = false ∨ ((x.1 : Int) = (k.1 : Int) ∧ (x.2 == k.2) = false) := by
  by_cases f : x.1 = k.1
  · exact .inr ⟨by rw [f], by simpa using fun g : x.2 = k.2 => h (Prod.ext f g)⟩
  · exact .inl (by simpa using fun g : ((x.1 : Nat) : Int) = (k.1 : Int) => f (by omega))
/-- where a prefix stands -/
def ixP (sl : List SyV) (k : PK) (r : Int) : Prop := (r = -1 ∧ Kl.look SyV.k sl k = none) ∨ ∃ i : Nat, r = i ∧ i < sl.length ∧ Kl.look SyV.k sl k = some (sl.getD i default)
theorem look_take {sl : List SyV} {i : Nat} {k : PK} (h : ∀ j, j < i → (sl.getD j default).k ≠ k) (hi : i < sl.length) (he : (sl.getD i default).k = k) : Kl.look SyV.k sl k = some (sl.getD i default) := by
  induction sl generalizing i with
  | nil => simp at hi
  | cons x r ih =>
    rw [look_cons]
    cases i with
    | zero =>
      simp only [List.getD_cons_zero] at he ⊢
      rw [if_pos he]
    | succ i =>
      have h0 := h 0 (Nat.succ_pos _)
      simp only [List.getD_cons_zero, List.getD_cons_succ] at h0 he ⊢
      rw [if_neg h0]
      exact ih (fun j hj => by have := h (j + 1) (by omega); simpa using this) (by simpa using hi) he
theorem look_all {sl : List SyV} {k : PK} (h : ∀ j, j < sl.length → (sl.getD j default).k ≠ k) : Kl.look SyV.k sl k = none := Kl.look_no fun x hx => by
  obtain ⟨i, hi, rfl⟩ := List.getElem_of_mem hx
  have := h i hi
  rwa [List.getD_eq_getElem?_getD, List.getElem?_eq_getElem hi, Option.getD_some] at this
structure FdS (w0 : World) (b o : Nat) (x : SyV) (q : Nat) (k : PK) (W : World) : Prop where
  e : ElS RSy w0 b o x W
  bx : BxP q k W
def largeY (L : List Sy) : Bool := decide (60 < L.length) || !(L.all fun s => !largeA s.a)
set_option maxRecDepth 100000 in
set_option maxHeartbeats 4000000 in
theorem rlargeY_any {w : World} {sa : Option Addr} {sn sc : Nat} {sl : List SyV} (h : SlOk RSy SyOk w ⟨sa, sn, sc, sl⟩) : Calls Try.prog 10 #[.slice sa sn sc] w fun e w' => e = .returned (.bool (largeY (sl.map SyV.sy))) ∧ Below w.heap.size w w' := by
  have HL := Lib.hid (show sn = sl.length from h.sl.len)
  have hmax : sn ≤ maxLen := h.sl.max
  have F := Lib.hid h
  obtain ⟨v, hv⟩ : ∃ v, largeY (sl.map SyV.sy) = v := ⟨_, rfl⟩
  rw [hv]
  have HV := Lib.hid (show v = (decide (60 < sn) || !(sl.all fun s => !largeA s.a.at)) from by
    rw [← hv]
    unfold largeY
    rw [List.length_map, ← HL.out, List.all_map]
    rfl)
  clear h hv
  by_cases h1 : 60 < sn
  · have e1 : ((60 : Int) < (sn : Int)) = True := by simp; omega
    rw [decide_eq_true h1] at HV
    clear h1
    go_enter Try.func10, Try.ntmps10
    go_wp2_with fail
    go_ret
    exact ⟨ret_bool (by rw [HV.out]; rfl), Below.refl _ _⟩
  · have e1 : ((60 : Int) < (sn : Int)) = False := by simp; omega
    rw [decide_eq_false h1, Bool.false_or] at HV
    clear h1
    go_enter Try.func10, Try.ntmps10
    go_wp2_with fail
    clear e1
    go_loopw [3] (fun iv wr => ∃ i : Nat, i ≤ sn ∧ iv = .int .i64 i ∧ (sl.take i).all (fun s => !largeA s.a.at) = true ∧ Below w.heap.size w wr) (fun iv _ => sn - (intOf iv).toNat)
    case atStart => exact ⟨0, Nat.zero_le _, rfl, rfl, Below.refl _ _⟩
    case round =>
      obtain ⟨i, hi, rfl, hall, hb⟩ := hrel
      obtain ⟨w2, rfl⟩ : ∃ w2 : World, w2 = wr := ⟨_, rfl⟩
      by_cases hlt : i < sn
      · have hil : ((i : Int) < (sn : Int)) = True := by simp; omega
        have hi0 : ((0 : Int) ≤ (i : Int)) = True := by simp
        have hw3 := wrapS hlt hmax
        have hsl := F.out.keepY hb
        have hlL : i < sl.length := by rw [← HL.out]; exact hlt
        obtain ⟨b0, o0, ea, hbb, hat⟩ := hsl.sl.at hlt
        dsimp only at ea
        subst ea
        have hmem := getD_mem hlL
        have t1 := all_take_s sl (fun s => !largeA s.a.at) i hlL
        rw [hall, Bool.true_and] at t1
        have hok := hsl.all _ hmem
        dsimp only at hat hmem hok
        generalize sl.getD i default = x at *
        have HC := Lib.hid (large_any hok.a)
        obtain ⟨bo, hbo⟩ : ∃ b, largeA x.a.at = b := ⟨_, rfl⟩
        rw [hbo] at HC t1
        have c2 := hat 2 (by decide)
        have c3 := hat 3 (by decide)
        have c4 := hat 4 (by decide)
        have c5 := hat 5 (by decide)
        have c6 := hat 6 (by decide)
        have c7 := hat 7 (by decide)
        simp only [RSy, List.getElem?_cons_zero, List.getElem?_cons_succ] at c2 c3 c4 c5 c6 c7
        have HT := Lib.hid (And.intro t1 (And.intro hmem (And.intro hbo hb)))
        unfold AtV.v at HC
        clear hsl hbb hat t1 hok hb hmem hbo hlL hall
        go_wp2_with fail
        refine (HC.out).mono ?_
        rintro e W3 ⟨rfl, hb3⟩
        have HB3 := Lib.hid (bcall HT.out.2.2.2 (Nat.le_refl _) hb3)
        clear hb3 HC c2 c3 c4 c5 c6 c7
        cases bo with
        | true =>
          go_wp2_with fail
          go_ret
          have hno : sl.all (fun s => !largeA s.a.at) = false := by
            rw [List.all_eq_false]
            exact ⟨x, HT.out.2.1, by rw [HT.out.2.2.1]; simp⟩
          exact ⟨ret_bool (by rw [HV.out, hno]; rfl), HB3.out⟩
        | false =>
          go_wp2_with fail
          exact ⟨⟨i + 1, hlt, by first | rw [hw3] | rw [Int.natCast_succ], HT.out.1, HB3.out⟩, by first | (rw [hw3]; exact mSucc hlt) | (rw [← Int.natCast_succ]; exact mSucc hlt)⟩
      · obtain rfl : i = sn := by omega
        have hil : ((i : Int) < (i : Int)) = False := by simp
        have HB := Lib.hid (And.intro hb hall)
        clear hb hall
        go_wp2_with fail
        go_ret
        have hy : sl.all (fun s => !largeA s.a.at) = true := by
          have := HB.out.2
          rwa [HL.out, List.take_length] at this
        exact ⟨ret_bool (by rw [HV.out, hy]; rfl), HB.out.1⟩
end Go.Proofs.Ytadoflcomienoaa
/- What may be said, as the reference tells. -/
namespace Go.Proofs.Ytadoflcomienoaa
open Go.RowKit

def okS (four : Bool) (s : SyV) : Bool := okP s.k.1 s.k.2 && okA four s.a.at
theorem okY_is {four : Bool} {sl : List SyV} : okY four (sl.map SyV.sy) = (sl.all (okS four) && decide ((sl.map SyV.k).Nodup)) := by
  unfold okY
  rw [List.all_map, List.map_map]
  rfl
theorem nodup_snoc {sl : List SyV} {i : Nat} (hi : i < sl.length) (h : ((sl.take i).map SyV.k).Nodup) (hn : ∀ j, j < i → (sl.getD j default).k ≠ (sl.getD i default).k) : ((sl.take (i + 1)).map SyV.k).Nodup := by
  rw [take_snoc sl i hi, List.map_append, List.nodup_append]
  refine ⟨h, by simp, ?_⟩
  intro a ha b hb e
  obtain ⟨y, hy, rfl⟩ := List.mem_map.1 ha
  obtain ⟨j, hj, rfl⟩ := List.getElem_of_mem hy
  rw [List.length_take] at hj
  have h1 := hn j (by omega)
  simp only [List.map_cons, List.map_nil, List.mem_singleton] at hb
  rw [List.getElem_take] at e
  rw [List.getD_eq_getElem?_getD, List.getElem?_eq_getElem (show j < sl.length by omega), Option.getD_some] at h1
  exact h1 (e.trans hb)
theorem nodup_not {sl : List SyV} {i j : Nat} (hj : j < i) (hi : i < sl.length) (h : (sl.getD j default).k = (sl.getD i default).k) : ¬ (sl.map SyV.k).Nodup := by
  intro hn
  rw [List.nodup_iff_pairwise_ne, List.pairwise_map] at hn
  have := List.pairwise_iff_getElem.1 hn j i (by omega) hi hj
  rw [List.getD_eq_getElem?_getD, List.getElem?_eq_getElem (show j < sl.length by omega), Option.getD_some, List.getD_eq_getElem?_getD, List.getElem?_eq_getElem hi, Option.getD_some] at h
  exact this h
set_option maxRecDepth 100000 in
set_option maxHeartbeats 8000000 in
theorem rcheckY_any {w : World} {sa : Option Addr} {sn sc : Nat} {sl : List SyV} (h : SlOk RSy SyOk w ⟨sa, sn, sc, sl⟩) (four : Bool) : Calls Try.prog 11 #[.slice sa sn sc, .bool four] w fun e w' => e = .returned (.bool (okY four (sl.map SyV.sy))) ∧ Below w.heap.size w w' := by
  have HL := Lib.hid (show sn = sl.length from h.sl.len)
  have hmax : sn ≤ maxLen := h.sl.max
  have F := Lib.hid h
  obtain ⟨v, hv⟩ : ∃ v, okY four (sl.map SyV.sy) = v := ⟨_, rfl⟩
  rw [hv]
  have HV := Lib.hid (hv.symm.trans okY_is)
  clear h hv
  go_enter Try.func11, Try.ntmps11
  go_wp2_with fail
  go_loopw [5] (fun iv wr => ∃ i : Nat, i ≤ sn ∧ iv = .int .i64 i ∧ ((sl.take i).all (okS four) = true ∧ ((sl.take i).map SyV.k).Nodup) ∧ Below w.heap.size w wr) (fun iv _ => sn - (intOf iv).toNat)
  case atStart => exact ⟨0, Nat.zero_le _, rfl, ⟨rfl, List.nodup_nil⟩, Below.refl _ _⟩
  case round =>
    obtain ⟨i, hi, rfl, hall, hb⟩ := hrel
    obtain ⟨w2, rfl⟩ : ∃ w2 : World, w2 = wr := ⟨_, rfl⟩
    by_cases hlt : i < sn
    · have hil : ((i : Int) < (sn : Int)) = True := by simp; omega
      have hi0 : ((0 : Int) ≤ (i : Int)) = True := by simp
      have hw3 := wrapS hlt hmax
      have hsl := F.out.keepY hb
      have hlL : i < sl.length := by rw [← HL.out]; exact hlt
      obtain ⟨b0, o0, ea, hbb, hat⟩ := hsl.sl.at hlt
      dsimp only at ea
      subst ea
      have hmem := getD_mem hlL
      have t1 := all_take_s sl (okS four) i hlL
      rw [hall.1, Bool.true_and] at t1
      have hok := hsl.all _ hmem
      dsimp only at hat hmem hok
      obtain ⟨x, hx⟩ : ∃ x, sl.getD i default = x := ⟨_, rfl⟩
      rw [hx] at hat hmem hok t1
      have HC := Lib.hid (rcheck_any x.k.1 x.k.2 hok.k.1 w2)
      obtain ⟨bp, hbp⟩ : ∃ b, okP x.k.1 x.k.2 = b := ⟨_, rfl⟩
      rw [hbp] at HC
      have HBP := Lib.hid hbp
      have G := Lib.hid (And.intro hall (And.intro hb (And.intro hat (And.intro hbb (And.intro hok (And.intro hx (And.intro hmem (And.intro t1 (And.intro hlL hsl)))))))))
      have c0 := hat 0 (by decide)
      have c1 := hat 1 (by decide)
      have c2 := hat 2 (by decide)
      have c3 := hat 3 (by decide)
      have c4 := hat 4 (by decide)
      have c5 := hat 5 (by decide)
      have c6 := hat 6 (by decide)
      have c7 := hat 7 (by decide)
      simp only [RSy, Nat.add_zero, List.getElem?_cons_zero, List.getElem?_cons_succ] at c0 c1 c2 c3 c4 c5 c6 c7
      unfold pfx at HC
      clear hbp hsl hbb hat t1 hok hb hmem hall hx hlL hi
      cases bp with
      | false =>
        go_wp2_with fail
        refine (HC.out).mono ?_
        rintro e W3 ⟨rfl, hb3⟩
        have HB3 := Lib.hid (bcall G.out.2.1 (Nat.le_refl _) hb3)
        clear hb3 HC c0 c1 c2 c3 c4 c5 c6 c7
        go_wp2_with fail
        go_ret
        have hno : sl.all (okS four) = false := by
          rw [List.all_eq_false]
          exact ⟨x, G.out.2.2.2.2.2.2.1, by unfold okS; rw [HBP.out]; simp⟩
        exact ⟨ret_bool (by rw [HV.out, hno]; rfl), HB3.out⟩
      | true =>
        go_wp2_with fail
        refine (HC.out).mono ?_
        rintro e W3 ⟨rfl, hb3⟩
        have HC2 := Lib.hid (racheck_any (G.out.2.2.2.2.1.a.keep hb3) four)
        obtain ⟨ba, hba⟩ : ∃ b, okA four x.a.at = b := ⟨_, rfl⟩
        rw [hba] at HC2
        have HBA := Lib.hid hba
        have hat := G.out.2.2.1.keep (hb3.block _ G.out.2.2.2.1)
        have HB3 := Lib.hid hb3
        clear hba hb3 HC c0 c1 c2 c3 c4 c5 c6 c7
        have c0 := hat 0 (by decide)
        have c1 := hat 1 (by decide)
        have c2 := hat 2 (by decide)
        have c3 := hat 3 (by decide)
        have c4 := hat 4 (by decide)
        have c5 := hat 5 (by decide)
        have c6 := hat 6 (by decide)
        have c7 := hat 7 (by decide)
        simp only [RSy, Nat.add_zero, List.getElem?_cons_zero, List.getElem?_cons_succ] at c0 c1 c2 c3 c4 c5 c6 c7
        unfold AtV.v at HC2
        clear hat
        go_wp2_with fail
        refine (HC2.out).mono ?_
        rintro e W4 ⟨rfl, hb4⟩
        have HB4 := Lib.hid (HB3.out.trans (hb4.mono HB3.out.size))
        clear hb4 HC2 c0 c1 c2 c3 c4 c5 c6 c7 HB3
        cases ba with
        | false =>
          go_wp2_with fail
          go_ret
          have hno : sl.all (okS four) = false := by
            rw [List.all_eq_false]
            exact ⟨x, G.out.2.2.2.2.2.2.1, by unfold okS; rw [HBA.out]; simp⟩
          exact ⟨ret_bool (by rw [HV.out, hno]; rfl), bcall G.out.2.1 (Nat.le_refl _) HB4.out⟩
        | true =>
          have HI := Lib.hid hlt
          go_wp2_with fail
          go_loopw [6] (fun kv wr => ∃ k : Nat, k ≤ i ∧ kv = .int .i64 k ∧ (∀ j, j < k → (sl.getD j default).k ≠ x.k) ∧ Below w2.heap.size w2 wr) (fun kv _ => i - (intOf kv).toNat)
          case atStart => exact ⟨0, Nat.zero_le _, rfl, fun j hj => absurd hj (Nat.not_lt_zero _), HB4.out⟩
          case round =>
            obtain ⟨k, hk, rfl, hno, hb⟩ := hrel
            obtain ⟨w5, rfl⟩ : ∃ w5 : World, w5 = wr := ⟨_, rfl⟩
            by_cases hki : k < i
            · have hkl : ((k : Int) < (i : Int)) = True := by simp; omega
              have hk0 : ((0 : Int) ≤ (k : Int)) = True := by simp
              have hks : ((k : Int) < (sn : Int)) = True := by simp; omega
              have hwk := wrapS hki (show i ≤ maxLen by omega)
              obtain ⟨b1, o1, ea, hbb1, hat1⟩ := (G.out.2.2.2.2.2.2.2.2.2.keepY hb).sl.at (show k < sn by omega)
              injection ea with ea
              injection ea with ea1 ea2 _
              subst ea1
              subst ea2
              obtain ⟨y, hy⟩ : ∃ y, sl.getD k default = y := ⟨_, rfl⟩
              dsimp only at hat1
              rw [hy] at hat1
              have hat := G.out.2.2.1.keep (hb.block _ G.out.2.2.2.1)
              have hd := (Below.refl w5.heap.size w5).drew
              have K := Lib.hid (And.intro (show El2 RSy w5 b0 (o0 + k * 8) y b0 (o0 + i * 8) x w5.drew from ⟨(ElS.begin hat1 hbb1).keep hd, (ElS.begin hat hbb1).keep hd⟩) (And.intro (bcall hb (Nat.le_refl _) hd) (And.intro hno (And.intro hy hki))))
              clear hat1 hat hbb1 hd hb hno hy hk
              by_cases hp : y.k = x.k
              · have e1 : (y.k.1 : Int) = (x.k.1 : Int) := by rw [hp]
                have e2 : y.k.2 = x.k.2 := by rw [hp]
                have HP := Lib.hid hp
                clear hp
                go_wp2_with fail
                refine wp_region_heldP (El2 RSy w5 b0 (o0 + k * 8) y b0 (o0 + i * 8) x) (by kernel_rfl) ?_
                generalize w5.drew = V at *
                refine held_reads [0, 1, 2, 3, 4, 5, 6, 7, 8, 9, 10] (g := 0) rfl (by kernel_rfl) K.out.1 (fun _ _ d _ _ h => by cases d <;> exact h) ?_
                simp only [pick, List.getD_cons_zero, List.getD_cons_succ]
                ((with_reducible refine wpRead_step (fun K hK => ?_)); go_simp; first | ((with_reducible refine hK _ ?_); clear hK K) | (apply Exists.intro; (with_reducible refine ⟨fun w' hw' => ?_, hK _ ?_⟩); (first | exact rfl | exact ⟨rfl, rfl⟩); clear hK K))
                ((with_reducible refine wpRead_step (fun K hK => ?_)); go_simp; first | ((with_reducible refine hK _ ?_); clear hK K) | (apply Exists.intro; (with_reducible refine ⟨fun w' hw' => ?_, hK _ ?_⟩); (first | exact rfl | exact ⟨rfl, rfl⟩); clear hK K))
                ((with_reducible refine wpRead_step (fun K hK => ?_)); go_simp; first | ((with_reducible refine hK _ ?_); clear hK K) | (apply Exists.intro; (with_reducible refine ⟨fun w' hw' => ?_, hK _ ?_⟩); (first | exact rfl | exact ⟨rfl, rfl⟩); clear hK K))
                ((with_reducible refine wpRead_step (fun K hK => ?_)); go_simp; first | ((with_reducible refine hK _ ?_); clear hK K) | (apply Exists.intro; (with_reducible refine ⟨fun w' hw' => ?_, hK _ ?_⟩); (first | exact rfl | exact ⟨rfl, rfl⟩); clear hK K))
                with_reducible refine wpRead_yes ?_ ?_
                rotate_left
                rfl
                intro K hK
                refine read_load 33 _ rfl b0 (o0 + k * 8) #[.int .u32 (y.k.1 : Int), .int .i64 y.k.2] rfl (fun w' hw' => hw'.l.at'.yP) Try.underlying33 rfl (by kernel_rfl) (hK _ ?_)
                clear hK K
                ((with_reducible refine wpRead_step (fun K hK => ?_)); go_simp; first | ((with_reducible refine hK _ ?_); clear hK K) | (apply Exists.intro; (with_reducible refine ⟨fun w' hw' => ?_, hK _ ?_⟩); (first | exact rfl | exact ⟨rfl, rfl⟩); clear hK K))
                ((with_reducible refine wpRead_step (fun K hK => ?_)); go_simp; first | ((with_reducible refine hK _ ?_); clear hK K) | (apply Exists.intro; (with_reducible refine ⟨fun w' hw' => ?_, hK _ ?_⟩); (first | exact rfl | exact ⟨rfl, rfl⟩); clear hK K))
                ((with_reducible refine wpRead_step (fun K hK => ?_)); go_simp; first | ((with_reducible refine hK _ ?_); clear hK K) | (apply Exists.intro; (with_reducible refine ⟨fun w' hw' => ?_, hK _ ?_⟩); (first | exact rfl | exact ⟨rfl, rfl⟩); clear hK K))
                ((with_reducible refine wpRead_step (fun K hK => ?_)); go_simp; first | ((with_reducible refine hK _ ?_); clear hK K) | (apply Exists.intro; (with_reducible refine ⟨fun w' hw' => ?_, hK _ ?_⟩); (first | exact rfl | exact ⟨rfl, rfl⟩); clear hK K))
                with_reducible refine wpRead_yes ?_ ?_
                rotate_left
                rfl
                intro K hK
                refine read_load 33 _ rfl b0 (o0 + i * 8) #[.int .u32 (x.k.1 : Int), .int .i64 x.k.2] rfl (fun w' hw' => hw'.r.at'.yP) Try.underlying33 rfl (by kernel_rfl) (hK _ ?_)
                clear hK K
                ((with_reducible refine wpRead_step (fun K hK => ?_)); go_simp; first | ((with_reducible refine hK _ ?_); clear hK K) | (apply Exists.intro; (with_reducible refine ⟨fun w' hw' => ?_, hK _ ?_⟩); (first | exact rfl | exact ⟨rfl, rfl⟩); clear hK K))
                with_reducible refine wpRead_nil ?_
                refine wpAnyH_done (by kernel_rfl) ?_ _
                go_wp2_with fail
                go_ret
                have hno : decide ((sl.map SyV.k).Nodup) = false := decide_eq_false (nodup_not K.out.2.2.2.2 G.out.2.2.2.2.2.2.2.2.1 (by rw [K.out.2.2.2.1, G.out.2.2.2.2.2.1]; exact HP.out))
                exact ⟨ret_bool (by rw [HV.out, hno, Bool.and_false]), bcall G.out.2.1 (Nat.le_refl _) K.out.2.1⟩
              · have HP := Lib.hid hp
                rcases pk_ne hp with e1 | ⟨e1, e2⟩
                all_goals
                  clear hp
                  go_wp2_with fail
                  refine wp_region_heldP (El2 RSy w5 b0 (o0 + k * 8) y b0 (o0 + i * 8) x) (by kernel_rfl) ?_
                  generalize w5.drew = V at *
                  refine held_reads [0, 1, 2, 3, 4, 5, 6, 7, 8, 9, 10] (g := 0) rfl (by kernel_rfl) K.out.1 (fun _ _ d _ _ h => by cases d <;> exact h) ?_
                  simp only [pick, List.getD_cons_zero, List.getD_cons_succ]
                  ((with_reducible refine wpRead_step (fun K hK => ?_)); go_simp; first | ((with_reducible refine hK _ ?_); clear hK K) | (apply Exists.intro; (with_reducible refine ⟨fun w' hw' => ?_, hK _ ?_⟩); (first | exact rfl | exact ⟨rfl, rfl⟩); clear hK K))
                  ((with_reducible refine wpRead_step (fun K hK => ?_)); go_simp; first | ((with_reducible refine hK _ ?_); clear hK K) | (apply Exists.intro; (with_reducible refine ⟨fun w' hw' => ?_, hK _ ?_⟩); (first | exact rfl | exact ⟨rfl, rfl⟩); clear hK K))
                  ((with_reducible refine wpRead_step (fun K hK => ?_)); go_simp; first | ((with_reducible refine hK _ ?_); clear hK K) | (apply Exists.intro; (with_reducible refine ⟨fun w' hw' => ?_, hK _ ?_⟩); (first | exact rfl | exact ⟨rfl, rfl⟩); clear hK K))
                  ((with_reducible refine wpRead_step (fun K hK => ?_)); go_simp; first | ((with_reducible refine hK _ ?_); clear hK K) | (apply Exists.intro; (with_reducible refine ⟨fun w' hw' => ?_, hK _ ?_⟩); (first | exact rfl | exact ⟨rfl, rfl⟩); clear hK K))
                  with_reducible refine wpRead_yes ?_ ?_
                  rotate_left
                  rfl
                  intro K hK
                  refine read_load 33 _ rfl b0 (o0 + k * 8) #[.int .u32 (y.k.1 : Int), .int .i64 y.k.2] rfl (fun w' hw' => hw'.l.at'.yP) Try.underlying33 rfl (by kernel_rfl) (hK _ ?_)
                  clear hK K
                  ((with_reducible refine wpRead_step (fun K hK => ?_)); go_simp; first | ((with_reducible refine hK _ ?_); clear hK K) | (apply Exists.intro; (with_reducible refine ⟨fun w' hw' => ?_, hK _ ?_⟩); (first | exact rfl | exact ⟨rfl, rfl⟩); clear hK K))
                  ((with_reducible refine wpRead_step (fun K hK => ?_)); go_simp; first | ((with_reducible refine hK _ ?_); clear hK K) | (apply Exists.intro; (with_reducible refine ⟨fun w' hw' => ?_, hK _ ?_⟩); (first | exact rfl | exact ⟨rfl, rfl⟩); clear hK K))
                  ((with_reducible refine wpRead_step (fun K hK => ?_)); go_simp; first | ((with_reducible refine hK _ ?_); clear hK K) | (apply Exists.intro; (with_reducible refine ⟨fun w' hw' => ?_, hK _ ?_⟩); (first | exact rfl | exact ⟨rfl, rfl⟩); clear hK K))
                  ((with_reducible refine wpRead_step (fun K hK => ?_)); go_simp; first | ((with_reducible refine hK _ ?_); clear hK K) | (apply Exists.intro; (with_reducible refine ⟨fun w' hw' => ?_, hK _ ?_⟩); (first | exact rfl | exact ⟨rfl, rfl⟩); clear hK K))
                  with_reducible refine wpRead_yes ?_ ?_
                  rotate_left
                  rfl
                  intro K hK
                  refine read_load 33 _ rfl b0 (o0 + i * 8) #[.int .u32 (x.k.1 : Int), .int .i64 x.k.2] rfl (fun w' hw' => hw'.r.at'.yP) Try.underlying33 rfl (by kernel_rfl) (hK _ ?_)
                  clear hK K
                  ((with_reducible refine wpRead_step (fun K hK => ?_)); go_simp; first | ((with_reducible refine hK _ ?_); clear hK K) | (apply Exists.intro; (with_reducible refine ⟨fun w' hw' => ?_, hK _ ?_⟩); (first | exact rfl | exact ⟨rfl, rfl⟩); clear hK K))
                  with_reducible refine wpRead_nil ?_
                  refine wpAnyH_done (by kernel_rfl) ?_ _
                  go_wp2_with fail
                  exact ⟨⟨k + 1, hki, by first | rw [hwk] | rw [Int.natCast_succ], fun j hj => (Nat.lt_succ_iff_lt_or_eq.1 hj).elim (K.out.2.2.1 j) (fun e => by rw [e, K.out.2.2.2.1]; exact HP.out), K.out.2.1⟩, by first | (rw [hwk]; exact mSucc hki) | (rw [← Int.natCast_succ]; exact mSucc hki)⟩
            · obtain rfl : k = i := by omega
              have hkl : ((k : Int) < (k : Int)) = False := by simp
              have HB := Lib.hid (And.intro hno (bcall G.out.2.1 (Nat.le_refl _) hb))
              clear hno hb hk
              go_wp2_with fail
              have hA : (sl.take (k + 1)).all (okS four) = true := by rw [G.out.2.2.2.2.2.2.2.1]; unfold okS; rw [HBP.out, HBA.out]; rfl
              have hB : ((sl.take (k + 1)).map SyV.k).Nodup := nodup_snoc G.out.2.2.2.2.2.2.2.2.1 G.out.1.2 (by rw [G.out.2.2.2.2.2.1]; exact HB.out.1)
              exact ⟨⟨k + 1, hlt, by first | rw [hw3] | rw [Int.natCast_succ], ⟨hA, hB⟩, HB.out.2⟩, by first | (rw [hw3]; exact mSucc hlt) | (rw [← Int.natCast_succ]; exact mSucc hlt)⟩
    · obtain rfl : i = sn := by omega
      have hil : ((i : Int) < (i : Int)) = False := by simp
      have HB := Lib.hid (And.intro hb hall)
      clear hb hall
      go_wp2_with fail
      go_ret
      have hA := HB.out.2.1
      have hB := HB.out.2.2
      rw [HL.out, List.take_length] at hA hB
      exact ⟨ret_bool (by rw [HV.out, hA, decide_eq_true hB]; rfl), HB.out.1⟩
end Go.Proofs.Ytadoflcomienoaa
/- Updates of prefixes that go. -/
namespace Go.Proofs.Ytadoflcomienoaa
open Go.RowKit

theorem chkU_G {four : Bool} {L : List Nl} (hL : ∀ n ∈ L, okN false n = true) : chkU four (mkG L) = (decide (L.length ≤ 1024) && decide (szs szN L ≤ 4073)) := by
  have h1 : okL false L = decide (L.length ≤ 1024) := by
    unfold okL
    rw [List.all_eq_true.2 hL, Bool.and_true]
  unfold chkU lenU mkG okAt aszU
  dsimp only
  rw [if_pos List.length_nil, if_pos List.length_nil, h1, show (nbs false ([] : List Nl)).length = 0 from rfl, nbs_szs, show okL false ([] : List Nl) = true from rfl]
  rw [Bool.eq_iff_iff]
  simp only [Bool.and_eq_true, decide_eq_true_eq, Bool.not_false, true_and, and_true]
  omega
theorem szN_9 {n : Nl} (h : okN false n = true) : szN n ≤ 9 := nb_len false h
theorem fitG_pos {l : List Nl} (hL : ∀ n ∈ l, okN false n = true) (h : l ≠ []) : 1 ≤ fitI szN 4073 1024 l := fitI_pos h (by decide) fun x hx => by have := szN_9 (hL x hx); omega
theorem goneI_step {l : List Nl} (hL : ∀ n ∈ l, okN false n = true) (h : l ≠ []) : goneI szN l = mkG (l.take (fitI szN 4073 1024 l)) :: goneI szN (l.drop (fitI szN 4073 1024 l)) := by
  have h1 := fitG_pos hL h
  have e : ∀ (n m : Nat) (r : List Nl), (∀ x ∈ r, okN false x = true) → r.length ≤ n → r.length ≤ m → chunksI (fitI szN 4073 1024) n r = chunksI (fitI szN 4073 1024) m r := by
    intro n
    induction n with
    | zero =>
      intro m r hr h1 h2
      obtain rfl := List.length_eq_zero_iff.1 (Nat.le_zero.1 h1)
      rw [chunksI_nil, chunksI_nil]
    | succ n ih =>
      intro m r hr h1 h2
      by_cases h0 : r = []
      · rw [h0, chunksI_nil, chunksI_nil]
      · have h3 := fitG_pos hr h0
        have h4 := List.length_pos_iff.2 h0
        obtain ⟨m', rfl⟩ : ∃ m', m = m' + 1 := ⟨m - 1, by omega⟩
        rw [chunksI_cons _ n h0, chunksI_cons _ m' h0, ih m' _ (fun x hx => hr x (List.mem_of_mem_drop hx)) (by rw [List.length_drop]; omega) (by rw [List.length_drop]; omega)]
  unfold goneI
  have h4 := List.length_pos_iff.2 h
  obtain ⟨n, hn⟩ : ∃ n, l.length = n + 1 := ⟨l.length - 1, by omega⟩
  rw [hn, chunksI_cons _ n h, List.map_cons, e n (l.drop (fitI szN 4073 1024 l)).length _ (fun x hx => hL x (List.mem_of_mem_drop hx)) (by rw [List.length_drop]; omega) (Nat.le_refl _)]
  rfl
/-- what has been laid, what is left -/
structure GnS (sn : Nat) (sl : List Nl) (M : List UpV) (l : List Nl) : Prop where
  ok : ∀ n ∈ l, okN false n = true
  eq : M.map UpV.up ++ goneI szN l = goneI szN sl
  len : M.length + l.length ≤ sn
theorem GnS.step {sn : Nat} {sl : List Nl} {M : List UpV} {l : List Nl} (h : GnS sn sl M l) (h0 : l ≠ []) {i : Nat} (hi : fitI szN 4073 1024 l = i) {x : UpV} (hx : x.up = mkG (l.take i)) : GnS sn sl (M ++ [x]) (l.drop i) := by
  have h1 := fitG_pos h.ok h0
  have h4 := List.length_pos_iff.2 h0
  refine ⟨fun n hn => h.ok n (List.mem_of_mem_drop hn), ?_, ?_⟩
  · rw [← h.eq, goneI_step h.ok h0, hi, List.map_append, List.append_assoc, List.map_cons, hx]
    rfl
  · have := h.len
    rw [List.length_append, List.length_drop, List.length_singleton]
    omega
end Go.Proofs.Ytadoflcomienoaa
/- Those with the same attributes, and the rest: two slices of the call's own. -/
namespace Go.Proofs.Ytadoflcomienoaa
open Go.RowKit

def sameV (a : At) (L : List SyV) : List Nl := (L.filter fun t => decide (t.a.at = a)).map fun t => t.sy.nl
def restV (a : At) (L : List SyV) : List SyV := L.filter fun t => !decide (t.a.at = a)
theorem sameV_is (a : At) (L : List SyV) : sameV a L = sameI a (L.map SyV.sy) := by
  unfold sameV sameI
  rw [List.filter_map, List.map_map]
  rfl
theorem restV_is (a : At) (L : List SyV) : (restV a L).map SyV.sy = restI a (L.map SyV.sy) := by
  unfold restV restI
  rw [List.filter_map]
  rfl
theorem restV_lt {L : List SyV} {x : SyV} {r : List SyV} (h : L = x :: r) : (restV x.a.at L).length < L.length := by
  have := restI_lt (L := L.map SyV.sy) (s := x.sy) (r := r.map SyV.sy) (by rw [h]; rfl)
  rw [← show (restV x.a.at L).map SyV.sy = restI x.sy.a (L.map SyV.sy) from restV_is _ _, List.length_map, List.length_map] at this
  exact this
theorem sameV_len (a : At) (L : List SyV) : (sameV a L).length + (restV a L).length = L.length := by
  unfold sameV restV
  rw [List.length_map]
  induction L with
  | nil => rfl
  | cons x r ih =>
    rw [List.filter_cons, List.filter_cons]
    cases h : decide (x.a.at = a)
    · simp only [Bool.not_false, if_true, Bool.false_eq_true, if_false, List.length_cons]; omega
    · simp only [Bool.not_true, if_true, Bool.false_eq_true, if_false, List.length_cons]; omega
theorem sameV_yes {a : At} {L : List SyV} {i : Nat} (hi : i < L.length) {x : SyV} (hx : L.getD i default = x) (h : x.a.at = a) : sameV a (L.take (i + 1)) = sameV a (L.take i) ++ [x.sy.nl] ∧ restV a (L.take (i + 1)) = restV a (L.take i) := by
  have e : decide (x.a.at = a) = true := decide_eq_true h
  unfold sameV restV
  rw [take_snoc L i hi, hx, List.filter_append, List.filter_append, List.map_append]
  simp [e]
theorem sameV_no {a : At} {L : List SyV} {i : Nat} (hi : i < L.length) {x : SyV} (hx : L.getD i default = x) (h : ¬ x.a.at = a) : sameV a (L.take (i + 1)) = sameV a (L.take i) ∧ restV a (L.take (i + 1)) = restV a (L.take i) ++ [x] := by
  have e : decide (x.a.at = a) = false := decide_eq_false h
  unfold sameV restV
  rw [take_snoc L i hi, hx, List.filter_append, List.filter_append]
  simp [e]
structure SmS (w2 : World) (L : List SyV) (a : At) (i : Nat) (sv rv : Value) (wr : World) : Prop where
  s : RNl.Own wr w2.heap.size sv (sameV a (L.take i))
  r : RSy.Own wr w2.heap.size rv (restV a (L.take i))
  far : ∀ b, sv.ownBlock = some b → rv.ownBlock ≠ some b
  old : Below w2.heap.size w2 wr
theorem SmS.begin (w2 : World) (L : List SyV) (a : At) : SmS w2 L a 0 (.slice none 0 0) (.slice none 0 0) w2 := ⟨Rep.Own.nil _ _, Rep.Own.nil _ _, (fun b h => by cases h), Below.refl _ _⟩
theorem SmS.keep {w2 : World} {L : List SyV} {a : At} {i : Nat} {sv rv : Value} {wr W : World} (h : SmS w2 L a i sv rv wr) (hb : Below wr.heap.size wr W) : SmS w2 L a i sv rv W := ⟨h.s.below hb, h.r.below hb, h.far, bcall h.old (Nat.le_refl _) hb⟩
theorem SmS.same {w2 : World} {L : List SyV} {a : At} {i : Nat} {sv rv sv' : Value} {wr W : World} (h : SmS w2 L a i sv rv wr) (hi : i < L.length) {x : SyV} (hx : L.getD i default = x) (he : x.a.at = a) (hown : RNl.Own W w2.heap.size sv' (sameV a (L.take i) ++ [x.sy.nl])) (hb : Below w2.heap.size wr W) (hg : wr.grownBy W sv.ownBlock) (hf : sv'.ownBlock = sv.ownBlock ∨ sv'.ownBlock = some wr.heap.size) : SmS w2 L a (i + 1) sv' rv W := by
  obtain ⟨e1, e2⟩ := sameV_yes hi hx he
  refine ⟨by rw [e1]; exact hown, ?_, ?_, h.old.trans hb⟩
  · rw [e2]
    exact h.r.keep fun b hbk => hg.block b (World.ownsRow.lt h.r b hbk).2 (fun e => h.far b e.symm hbk)
  · intro b hbk hbr
    rcases hf with hf | hf
    · exact h.far b (hf.symm.trans hbk) hbr
    · rw [hf] at hbk
      injection hbk with hbk
      have := (World.ownsRow.lt h.r b hbr).2
      omega
theorem SmS.rest {w2 : World} {L : List SyV} {a : At} {i : Nat} {sv rv rv' : Value} {wr W : World} (h : SmS w2 L a i sv rv wr) (hi : i < L.length) {x : SyV} (hx : L.getD i default = x) (he : ¬ x.a.at = a) (hown : RSy.Own W w2.heap.size rv' (restV a (L.take i) ++ [x])) (hb : Below w2.heap.size wr W) (hg : wr.grownBy W rv.ownBlock) (hf : rv'.ownBlock = rv.ownBlock ∨ rv'.ownBlock = some wr.heap.size) : SmS w2 L a (i + 1) sv rv' W := by
  obtain ⟨e1, e2⟩ := sameV_no hi hx he
  refine ⟨?_, by rw [e2]; exact hown, ?_, h.old.trans hb⟩
  · rw [e1]
    exact h.s.keep fun b hbk => hg.block b (World.ownsRow.lt h.s b hbk).2 (fun e => h.far b hbk e.symm)
  · intro b hbk hbr
    rcases hf with hf | hf
    · exact h.far b hbk (hf.symm.trans hbr)
    · rw [hf] at hbr
      injection hbr with hbr
      have := (World.ownsRow.lt h.s b hbk).2
      omega
theorem okN_of {four : Bool} {s : SyV} (h : okS four s = true) : okN false s.sy.nl = true := by
  unfold okS at h
  rw [Bool.and_eq_true] at h
  exact okN_iff.2 ⟨⟨Int.le_refl _, by show (0 : Int) ≤ 4294967295; omega, .inr rfl⟩, h.1⟩
theorem okA_of {four : Bool} {s : SyV} (h : okS four s = true) : okA four s.a.at = true := by
  unfold okS at h
  rw [Bool.and_eq_true] at h
  exact h.2
theorem fitA_pos {four : Bool} {a : At} (ha : okA four a = true) {l : List Nl} (hL : ∀ n ∈ l, okN false n = true) (h : l ≠ []) : 1 ≤ fitA szN (asz four) a l := fitI_pos h (by decide) fun x hx => by have := szN_9 (hL x hx); have := asz_le ha; omega
theorem chunksA_step {four : Bool} {a : At} (ha : okA four a = true) {l : List Nl} (hL : ∀ n ∈ l, okN false n = true) (h : l ≠ []) : chunksI (fitA szN (asz four) a) l.length l = l.take (fitA szN (asz four) a l) :: chunksI (fitA szN (asz four) a) (l.drop (fitA szN (asz four) a l)).length (l.drop (fitA szN (asz four) a l)) := by
  have e : ∀ (n m : Nat) (r : List Nl), (∀ x ∈ r, okN false x = true) → r.length ≤ n → r.length ≤ m → chunksI (fitA szN (asz four) a) n r = chunksI (fitA szN (asz four) a) m r := by
    intro n
    induction n with
    | zero =>
      intro m r hr h1 h2
      obtain rfl := List.length_eq_zero_iff.1 (Nat.le_zero.1 h1)
      rw [chunksI_nil, chunksI_nil]
    | succ n ih =>
      intro m r hr h1 h2
      by_cases h0 : r = []
      · rw [h0, chunksI_nil, chunksI_nil]
      · have h3 := fitA_pos ha hr h0
        have h4 := List.length_pos_iff.2 h0
        obtain ⟨m', rfl⟩ : ∃ m', m = m' + 1 := ⟨m - 1, by omega⟩
        rw [chunksI_cons _ n h0, chunksI_cons _ m' h0, ih m' _ (fun x hx => hr x (List.mem_of_mem_drop hx)) (by rw [List.length_drop]; omega) (by rw [List.length_drop]; omega)]
  have h1 := fitA_pos ha hL h
  have h4 := List.length_pos_iff.2 h
  obtain ⟨n, hn⟩ : ∃ n, l.length = n + 1 := ⟨l.length - 1, by omega⟩
  rw [hn, chunksI_cons _ n h, e n _ _ (fun x hx => hL x (List.mem_of_mem_drop hx)) (by rw [List.length_drop]; omega) (Nat.le_refl _)]
/-- the outer rounds -/
structure CmS (four : Bool) (lo hi sn : Nat) (tot : List Up) (M : List UpV) (l : List SyV) : Prop where
  ap : ∀ x ∈ M, ApU lo hi x
  low : ∀ s ∈ l, LowA lo s.a
  ok : ∀ s ∈ l, okS four s = true
  eq : M.map UpV.up ++ comeI szN (asz four) l.length (l.map SyV.sy) = tot
  len : M.length + l.length ≤ sn
/-- the inner rounds -/
structure CmT (four : Bool) (lo hi sn : Nat) (tot : List Up) (a : At) (rest : List SyV) (M : List UpV) (s : List Nl) : Prop where
  ap : ∀ x ∈ M, ApU lo hi x
  low : ∀ s ∈ rest, LowA lo s.a
  ok : ∀ s ∈ rest, okS four s = true
  oks : ∀ n ∈ s, okN false n = true
  oka : okA four a = true
  eq : M.map UpV.up ++ ((chunksI (fitA szN (asz four) a) s.length s).map (mkR a) ++ comeI szN (asz four) rest.length (rest.map SyV.sy)) = tot
  len : M.length + s.length + rest.length ≤ sn
theorem CmS.start {four : Bool} {lo hi : Nat} {sl : List SyV} (h : ∀ s ∈ sl, okS four s = true) (hB : ∀ s ∈ sl, LowA lo s.a) {sn : Nat} (hn : sn = sl.length) : CmS four lo hi sn (comeI szN (asz four) sl.length (sl.map SyV.sy)) [] sl := ⟨(fun _ h => by cases h), hB, h, rfl, by rw [List.length_nil, hn, Nat.zero_add]; exact Nat.le_refl _⟩
theorem CmS.inner {four : Bool} {lo hi sn : Nat} {tot : List Up} {M : List UpV} {l : List SyV} {x : SyV} {r : List SyV} (h : CmS four lo hi sn tot M l) (hl : l = x :: r) : CmT four lo hi sn tot x.a.at (restV x.a.at l) M (sameV x.a.at l) := by
  refine ⟨h.ap, fun s hs => h.low s (List.mem_filter.1 hs).1, fun s hs => h.ok s (List.mem_filter.1 hs).1, fun n hn => ?_, okA_of (h.ok x (by rw [hl]; exact List.mem_cons_self)), ?_, ?_⟩
  · obtain ⟨t, ht, rfl⟩ := List.mem_map.1 hn
    exact okN_of (h.ok t (List.mem_filter.1 ht).1)
  · rw [← h.eq]
    congr 1
    have h1 := comeI_step (sz := szN) (asz := asz four) (L := l.map SyV.sy) (s := x.sy) (r := r.map SyV.sy) (by rw [hl]; rfl)
    rw [List.length_map, ← sameV_is, ← restV_is, List.length_map] at h1
    exact h1.symm
  · have := h.len
    have := sameV_len x.a.at l
    omega
theorem CmT.step {four : Bool} {lo hi sn : Nat} {tot : List Up} {a : At} {rest : List SyV} {M : List UpV} {s : List Nl} (h : CmT four lo hi sn tot a rest M s) (h0 : s ≠ []) {i : Nat} (hfi : fitI szN (4073 - asz four a) 1024 s = i) {x : UpV} (hx : x.up = mkR a (s.take i)) (hap : ApU lo hi x) : CmT four lo hi sn tot a rest (M ++ [x]) (s.drop i) := by
  have h1 := fitA_pos h.oka h.oks h0
  have h4 := List.length_pos_iff.2 h0
  have hi' : fitA szN (asz four) a s = i := hfi
  refine ⟨fun y hy => ?_, h.low, h.ok, fun n hn => h.oks n (List.mem_of_mem_drop hn), h.oka, ?_, ?_⟩
  · rcases List.mem_append.1 hy with hy | hy
    · exact h.ap y hy
    · rw [List.mem_singleton] at hy; exact hy ▸ hap
  · rw [← h.eq, chunksA_step h.oka h.oks h0, hi', List.map_append, List.append_assoc, List.map_cons, List.map_cons, hx]
    rfl
  · have := h.len
    rw [List.length_append, List.length_drop, List.length_singleton]
    omega
theorem CmT.outer {four : Bool} {lo hi sn : Nat} {tot : List Up} {a : At} {rest : List SyV} {M : List UpV} (h : CmT four lo hi sn tot a rest M []) : CmS four lo hi sn tot M rest := ⟨h.ap, h.low, h.ok, h.eq, by have := h.len; rw [List.length_nil] at this; omega⟩
theorem CmS.done {four : Bool} {lo hi sn : Nat} {tot : List Up} {M : List UpV} (h : CmS four lo hi sn tot M []) : M.map UpV.up = tot := by rw [← h.eq, List.map_nil, comeI_nil, List.append_nil]
end Go.Proofs.Ytadoflcomienoaa
/- The unlike ones of a list, as a map's keys are laid. -/
namespace Go.Proofs.Ytadoflcomienoaa
section
variable {κ : Type} [DecidableEq κ]
def addK (S : List κ) (x : κ) : List κ := if x ∈ S then S else S ++ [x]
def keysOf (L : List κ) : List κ := L.foldl addK []
theorem keysOf_snoc (L : List κ) (x : κ) : keysOf (L ++ [x]) = addK (keysOf L) x := by unfold keysOf; rw [List.foldl_append]; rfl
theorem keysOf_succ {α : Type} [Inhabited α] (f : α → κ) {L : List α} {i : Nat} (h : i < L.length) : keysOf ((L.take (i + 1)).map f) = addK (keysOf ((L.take i).map f)) (f (L.getD i default)) := by
  rw [List.take_succ_eq_append_getElem h, List.map_append, List.map_singleton, keysOf_snoc]
  simp [List.getD_eq_getElem?_getD, h]
omit [DecidableEq κ] in
theorem snoc_list {P : List κ → Prop} (h0 : P []) (h1 : ∀ L x, P L → P (L ++ [x])) : ∀ L, P L := by
  intro L
  have : ∀ n (L : List κ), L.length = n → P L := by
    intro n
    induction n with
    | zero => intro L h; rw [List.length_eq_zero_iff.1 h]; exact h0
    | succ n ih =>
      intro L h
      have hne : L ≠ [] := by rintro rfl; simp at h
      rw [← List.dropLast_concat_getLast hne]
      exact h1 _ _ (ih _ (by simp; omega))
  exact this _ _ rfl
theorem keysOf_mem : ∀ (L : List κ) (y : κ), y ∈ keysOf L ↔ y ∈ L := by
  refine snoc_list (fun y => Iff.rfl) fun L x ih y => ?_
  rw [keysOf_snoc]
  unfold addK
  split
  · rename_i h
    rw [ih, List.mem_append, List.mem_singleton]
    refine ⟨.inl, ?_⟩
    rintro (h1 | rfl)
    · exact h1
    · exact (ih _).1 h
  · rw [List.mem_append, List.mem_append, ih]
theorem keysOf_len : ∀ L : List κ, (L.Nodup → (keysOf L).length = L.length) ∧ (¬ L.Nodup → (keysOf L).length < L.length) ∧ (keysOf L).length ≤ L.length := by
  refine snoc_list ⟨fun _ => rfl, fun h => absurd List.nodup_nil h, Nat.le_refl _⟩ fun L x ih => ?_
  obtain ⟨h1, h2, h3⟩ := ih
  rw [keysOf_snoc]
  unfold addK
  by_cases hx : x ∈ keysOf L
  · rw [if_pos hx]
    have hm := (keysOf_mem L x).1 hx
    refine ⟨fun h => ?_, fun _ => by simp; omega, by simp; omega⟩
    rw [List.nodup_append] at h
    exact absurd rfl (h.2.2 x hm x (by simp))
  · rw [if_neg hx]
    have hm : x ∉ L := fun h => hx ((keysOf_mem L x).2 h)
    refine ⟨fun h => ?_, fun h => ?_, by simp; omega⟩
    · rw [List.nodup_append] at h
      simp [h1 h.1]
    · have : ¬ L.Nodup := fun hn => h (by rw [List.nodup_append]; exact ⟨hn, by simp, fun a ha b hb => by simp at hb; subst hb; rintro rfl; exact hm ha⟩)
      simp
      exact h2 this
theorem put_keysOf {l : List (MR.Ent κ)} {x : κ} (v : Value) (c : Nat) : (MR.put l x v c).map (·.1) = addK (l.map (·.1)) x := by
  unfold MR.put addK
  split
  · rw [List.map_map]
    refine List.map_congr_left fun e _ => ?_
    simp only [Function.comp]
    split
    · rename_i h; exact h.symm
    · rfl
  · simp

omit [DecidableEq κ] in
theorem nodup_get {α : Type} [Inhabited α] {f : α → κ} {L : List α} : (L.map f).Nodup ↔ ∀ k i, k < i → i < L.length → f (L.getD k default) ≠ f (L.getD i default) := by
  rw [List.nodup_iff_pairwise_ne, List.pairwise_iff_getElem]
  constructor
  · intro h k i hk hi
    have := h k i (by simp; omega) (by simpa using hi) hk
    simpa [List.getD_eq_getElem?_getD, List.getElem?_eq_getElem hi, List.getElem?_eq_getElem (show k < L.length by omega)] using this
  · intro h k i hk hi hki
    have hi' : i < L.length := by simpa using hi
    have := h k i hki hi'
    simpa [List.getD_eq_getElem?_getD, List.getElem?_eq_getElem hi', List.getElem?_eq_getElem (show k < L.length by omega)] using this
end
end Go.Proofs.Ytadoflcomienoaa
