/- Hops being made: the content, and what each step leaves. -/
import Derived.Test.YtlkbaplfffbmkaaHf
import Derived.Test.YtlkbaplfffbmkaaIb
namespace Go.Proofs.Ytlkbaplfffbmkaa
open Go.RowKit
open Go.ChangeMaps (setBlock)

def HD.add (D : HD) (x : If) : HD := ⟨(x.id, x) :: D.of, fun i => if i = x.r.toNat then upd (D.M i) x.ad x.ln.toNat (some x.id) else D.M i⟩
def hd0 : HD := ⟨[], fun _ _ _ => none⟩
def hdOf (l : List If) : HD := l.foldl HD.add hd0
theorem hdOf_succ {l : List If} {i : Nat} (hi : i < l.length) : hdOf (l.take (i + 1)) = (hdOf (l.take i)).add (l.getD i default) := by
  unfold hdOf
  rw [List.take_succ_eq_append_getElem hi, List.foldl_append]
  simp [List.getD_eq_getElem?_getD, hi]
theorem HD.get_add (D : HD) (x : If) (id : Int) : (D.add x).get id = if id = x.id then some x else D.get id := by
  unfold HD.get HD.add
  simp only [List.find?_cons]
  by_cases h : id = x.id
  · subst h; simp
  · rw [if_neg h]
    have : decide (x.id = id) = false := by simp; exact fun e => h e.symm
    rw [this]
def partCells (bm : Nat) (b : Nat → Nat) (k : Nat) : Array Value := (.map (some bm) :: (List.range 16).map (fun i => if i < k then .pointer (some ⟨b i, 0, none⟩) else .pointer none)).toArray
structure HopsN (B : Nat) (w : World) (h bm k t : Nat) (D : HD) (clk : Nat) (es : List (MR.Ent Int)) (b : Nat → Nat) (N : Nat → Nat → Nat → Option Nat) (n : Nat → Nat) : Prop where
  hB : B ≤ h
  mB : B ≤ bm
  ne : h ≠ bm
  cell : w.heap[h]? = some (.cells (partCells bm b k) 80)
  map : MR.MapAt IN w bm es clk
  get : ∀ id, MR.get? es id = (D.get id).map If.v
  tr : ∀ i, i < k → TrieI w (b i) (N i) (n i) (D.M i)
  nn : ∀ i, n i ≤ t
  apart : ∀ i j, i < k → j < k → i ≠ j → ∀ x, foot (b i) (N i) x → foot (b j) (N j) x → False
  free : ∀ i, i < k → ∀ x, foot (b i) (N i) x → x ≠ h ∧ x ≠ bm ∧ B ≤ x
  wf : ∀ i a d v, D.M i a d = some v → IN.ok v
namespace HopsN
variable {B : Nat} {w w' : World} {h bm k t : Nat} {D : HD} {clk : Nat} {es : List (MR.Ent Int)} {b : Nat → Nat} {N : Nat → Nat → Nat → Option Nat} {n : Nat → Nat}
theorem keep (H : HopsN B w h bm k t D clk es b N n) (hb : Below w.heap.size w w') : HopsN B w' h bm k t D clk es b N n :=
  { H with
    cell := (hb.block _ (lt_of_blk H.cell)).trans H.cell
    map := H.map.blk_iff IN (hb.block _ (lt_of_blk H.map.blk))
    tr := fun i hi => (H.tr i hi).below hb }
theorem part_nth (bm : Nat) (b : Nat → Nat) (k : Nat) {i : Nat} (hi : i < 16) : (partCells bm b k)[1 + i]? = some (if i < k then .pointer (some ⟨b i, 0, none⟩) else .pointer none) := by
  unfold partCells
  rw [List.getElem?_toArray, Nat.add_comm, List.getElem?_cons_succ, List.getElem?_map, List.getElem?_range hi]
  rfl
theorem part_set (bm : Nat) (b : Nat → Nat) {k c : Nat} (hk : k < 16) : (partCells bm b k).setIfInBounds (1 + k) (.pointer (some ⟨c, 0, none⟩)) = partCells bm (fun i => if i = k then c else b i) (k + 1) := by
  apply Array.ext_getElem?
  intro j
  rw [Array.getElem?_setIfInBounds]
  have hs : (partCells bm b k).size = 17 := by simp [partCells]
  cases j with
  | zero => rw [if_neg (by omega)]; rfl
  | succ j =>
    by_cases hj : j < 16
    · rw [Nat.add_comm j 1, part_nth _ _ _ hj, part_nth _ _ _ hj]
      by_cases e : k = j
      · subst e; simp [hs]; omega
      · rw [if_neg (by omega)]
        by_cases e2 : j < k
        · rw [if_pos e2, if_pos (by omega), if_neg (by omega)]
        · rw [if_neg e2, if_neg (by omega)]
    · rw [if_neg (by omega), Array.getElem?_eq_none (by rw [hs]; omega), Array.getElem?_eq_none (by simp [partCells]; omega)]
/-- behind trie.New, and the store of its pointer -/
theorem grow (H : HopsN B w h bm k t D clk es b N n) (hk : k < 16) {w1 w2 : World} (hb : Below w.heap.size w w1) (hB : B ≤ w.heap.size)
    (hT : TrieI w1 (w.heap.size + 1) (fun a d => if a = 0 ∧ d = 0 then some w.heap.size else none) 0 (fun _ _ => none)) (hD : D.M k = fun _ _ => none)
    (hs : SetB w1 w2 h (.cells ((partCells bm b k).setIfInBounds (1 + k) (.pointer (some ⟨w.heap.size + 1, 0, none⟩))) 80)) :
    HopsN B w2 h bm (k + 1) t D clk es (fun i => if i = k then w.heap.size + 1 else b i) (fun i => if i = k then (fun a d => if a = 0 ∧ d = 0 then some w.heap.size else none) else N i) (fun i => if i = k then 0 else n i) := by
  have H1 := H.keep hb
  have hf : ∀ x, foot (w.heap.size + 1) (fun a d => if a = 0 ∧ d = 0 then some w.heap.size else none) x → w.heap.size ≤ x := by
    rintro x (rfl | ⟨a, d, e⟩)
    · omega
    · dsimp only at e; split at e
      · injection e with e; omega
      · cases e
  have hh := lt_of_blk H.cell
  have hm := lt_of_blk H.map.blk
  refine ⟨H.hB, H.mB, H.ne, ?_, H1.map.blk_iff IN (hs.other (Ne.symm H.ne)), H.get, fun i hi => ?_, fun i => ?_, fun i j hi hj hij x => ?_, fun i hi x => ?_, H.wf⟩
  · rw [hs.at (lt_of_blk H1.cell), part_set _ _ hk]
  · by_cases e : i = k
    · subst e
      simp only [if_true, hD]
      exact hT.keep fun x hx => hs.other (by have := hf x hx; omega)
    · simp only [if_neg e]
      exact (H1.tr i (by omega)).keep fun x hx => hs.other (H.free i (by omega) x hx).1
  · split
    · omega
    · exact H.nn i
  · by_cases e : i = k
    · subst e
      simp only [if_true, if_neg (Ne.symm hij)]
      exact fun h1 h2 => by have := hf x h1; have := (H.tr j (by omega)).lt h2; omega
    · by_cases e2 : j = k
      · subst e2
        simp only [if_true, if_neg e]
        exact fun h1 h2 => by have := hf x h2; have := (H.tr i (by omega)).lt h1; omega
      · simp only [if_neg e, if_neg e2]
        exact H.apart i j (by omega) (by omega) hij x
  · by_cases e : i = k
    · subst e
      simp only [if_true]
      exact fun hx => by have := hf x hx; omega
    · simp only [if_neg e]
      exact H.free i (by omega) x
/-- behind the map's update, and Set -/
theorem put (H : HopsN B w h bm 16 t D clk es b N n) (hB : B ≤ w.heap.size) {x : If} (hr : x.r.toNat < 16) (hid : IN.ok x.id) {w1 w2 : World}
    (hm : MR.MapAt IN w1 bm (MR.put es x.id x.v clk) (MR.clock' es x.id clk)) (ho : ∀ j, j ≠ bm → w1.heap[j]? = w.heap[j]?) {N' : Nat → Nat → Option Nat} 
    (hT : TrieI w2 (b x.r.toNat) N' (if (D.M x.r.toNat x.ad x.ln.toNat).isSome then n x.r.toNat else n x.r.toNat + 1) (upd (D.M x.r.toNat) x.ad x.ln.toNat (some x.id)))
    (hs : w1.heap.size = w.heap.size) (hv : Moved w1 w2 (foot (b x.r.toNat) (N x.r.toNat)) (foot (b x.r.toNat) N')) :
    HopsN B w2 h bm 16 (t + 1) (D.add x) (MR.clock' es x.id clk) (MR.put es x.id x.v clk) b (fun i => if i = x.r.toNat then N' else N i) (fun i => if i = x.r.toNat then (if (D.M x.r.toNat x.ad x.ln.toNat).isSome then n x.r.toNat else n x.r.toNat + 1) else n i) := by
  have hh := lt_of_blk H.cell
  have hbm := lt_of_blk H.map.blk
  generalize hρ : x.r.toNat = ρ at *
  refine ⟨H.hB, H.mB, H.ne, ?_, hm.blk_iff IN (hv.same bm (by omega) fun hf => (H.free ρ hr bm hf).2.1 rfl), fun id => ?_, fun i hi => ?_, fun i => ?_, fun i j hi hj hij y => ?_, fun i hi y => ?_, fun i a d v => ?_⟩
  · rw [hv.same h (by omega) (fun hf => (H.free ρ hr h hf).1 rfl), ho h H.ne]; exact H.cell
  · rw [MR.get?_put, HD.get_add, H.get]; split <;> rfl
  · unfold HD.add
    by_cases e : i = ρ
    · subst e; simp only [if_true, hρ]; exact hT
    · simp only [if_neg e, hρ]
      exact (H.tr i hi).keep fun y hy => (hv.same y (by have := (H.tr i hi).lt hy; omega) (fun hf => H.apart i ρ hi hr e y hy hf)).trans (ho y (H.free i hi y hy).2.1)
  · have := H.nn i; have := H.nn ρ
    split
    · split <;> omega
    · omega
  · by_cases e : i = ρ
    · subst e
      simp only [if_true, if_neg (Ne.symm hij)]
      intro h1 h2
      rcases hv.foot y h1 with h3 | h3
      · exact H.apart i j hi hj hij y h3 h2
      · have := (H.tr j hj).lt h2; omega
    · by_cases e2 : j = ρ
      · subst e2
        simp only [if_true, if_neg e]
        intro h1 h2
        rcases hv.foot y h2 with h3 | h3
        · exact H.apart i j hi hj hij y h1 h3
        · have := (H.tr i hi).lt h1; omega
      · simp only [if_neg e, if_neg e2]
        exact H.apart i j hi hj hij y
  · by_cases e : i = ρ
    · subst e
      simp only [if_true]
      intro h1
      rcases hv.foot y h1 with h3 | h3
      · exact H.free i hi y h3
      · omega
    · simp only [if_neg e]
      exact H.free i hi y
  · unfold HD.add
    dsimp only
    rw [hρ]
    split
    · unfold upd; split
      · intro e; injection e with e; subst e; exact hid
      · exact H.wf i a d v
    · exact H.wf i a d v
theorem hops (H : HopsN B w h bm 16 t D clk es b N n) : HopsAt w h D := by
  refine ⟨⟨bm, clk, es, b, ?_, H.map, H.get, fun i hi => ⟨N i, n i, H.tr i hi⟩⟩, fun i _ => H.wf i⟩
  rw [H.cell]
  unfold partCells hopCells
  congr 3
end HopsN
end Go.Proofs.Ytlkbaplfffbmkaa
