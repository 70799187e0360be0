/- A trie and the reference's, side by side. -/
import Derived.Test.YtdhebjeajdohoaaRf
import Derived.Test.YtdhebjeajdohoaaIk
import Derived.Test.YtdhebjeajdohoaaOq
namespace Go.Proofs.Ytdhebjeajdohoaa
open Go.RowKit

structure GI (w : World) (b c : Nat) (w' : World) (N : Nat → Nat → Option Nat) (Et Ex : List ((Nat × Nat) × Int)) : Prop where
  trie : TrieEI w' b N Et
  ref : ∃ v, w'.heap[c]? = some (.cells #[v] 29 (0, 0)) ∧ RO.Own w' w.heap.size v Ex ∧ ∀ g, v.ownBlock = some g → ¬ foot b N g
  out : ¬ foot b N c
  cle : w.heap.size ≤ c
  below : Below w.heap.size w w'
  ft : ∀ k, foot b N k → w.heap.size ≤ k
variable {w : World} {b c : Nat} {w1 w2 : World} {N N' : Nat → Nat → Option Nat} {Et Ex E' : List ((Nat × Nat) × Int)}
theorem own_lt {w : World} {base : Nat} {v : Value} {L : List ((Nat × Nat) × Int)} (h : RO.Own w base v L) {g : Nat} (hg : v.ownBlock = some g) : g < w.heap.size := by
  rcases h.cases with ⟨rfl, _⟩ | ⟨g', cap, rfl, h1, h2, _⟩
  · cases hg
  · injection hg with hg; dsimp only at hg; omega
theorem GI.tmove (h : GI w b c w1 N Et Ex) (hm : Moved w1 w2 (foot b N) (foot b N')) (ht : TrieEI w2 b N' E') : GI w b c w2 N' E' Ex := by
  obtain ⟨v, h1, h2, h3⟩ := h.ref
  have hc := lt_of_blk h1
  refine ⟨ht, ⟨v, (hm.same c hc h.out).trans h1, h2.keep fun g hg => hm.same g (own_lt h2 hg) (h3 g hg), fun g hg hf => ?_⟩, fun hf => ?_, h.cle, h.below.trans (hm.below h.below.size h.ft), fun k hk => ?_⟩
  · rcases hm.foot g hf with h4 | h4
    · exact h3 g hg h4
    · have := own_lt h2 hg; omega
  · rcases hm.foot c hf with h4 | h4
    · exact h.out h4
    · omega
  · rcases hm.foot k hk with h4 | h4
    · exact h.ft k h4
    · have := h.below.size; omega
theorem GI.on (h : GI w b c w1 N Et Ex) (hb : Below w1.heap.size w1 w2) : GI w b c w2 N Et Ex := h.tmove (Moved.of_below hb _) (h.trie.below hb)
theorem GI.rmove (h : GI w b c w1 N Et Ex) (hr : RefT w2 c w1.heap.size E') (hb : But w1 w2 [c]) : GI w b c w2 N Et E' := by
  obtain ⟨⟨v, h1, h2⟩, -⟩ := hr
  have ht := h.trie
  refine ⟨ht.keep fun k hk => hb.block k (ht.lt hk) (fun hm => ?_), ⟨v, h1, h2.mono h.below.size, fun g hg hf => ?_⟩, h.out, h.cle, h.below.trans (hb.below h.below.size (fun k hk => ?_)), h.ft⟩
  · simp at hm; subst hm; exact h.out hk
  · have h3 := ht.lt hf
    rcases h2.cases with ⟨rfl, _⟩ | ⟨g', cap, rfl, h5, _⟩
    · cases hg
    · injection hg with hg; dsimp only at hg; omega
  · simp at hk; subst hk; exact h.cle
theorem GI.refT (h : GI w b c w1 N Et Ex) : RefT w1 c w.heap.size Ex := by
  obtain ⟨v, h1, h2, -⟩ := h.ref
  exact ⟨⟨v, h1, h2⟩, trivial⟩
theorem GI.arg (h : GI w b c w1 N Et Ex) {k : Nat} (hk : k < w.heap.size) : w1.heap[k]? = w.heap[k]? := h.below.block k hk
theorem setL_mem {E : List ((Nat × Nat) × Int)} {a : Nat} {l : Int} {x : Int} (ha : a < 4294967296) (hE : ∀ e ∈ E, e.1.1 < 4294967296) : ∀ e ∈ setL E a l x, e.1.1 < 4294967296 := by
  intro e he
  unfold setL at he
  split at he
  · rcases (ins_keys (a, l.toNat) x E e.1).1 (List.mem_map.2 ⟨e, he, rfl⟩) with h1 | h1
    · rw [h1]; exact ha
    · obtain ⟨e2, h2, h3⟩ := List.mem_map.1 h1; rw [← h3]; exact hE e2 h2
  · exact hE e he
theorem TrieEI.key {w : World} {b : Nat} {N : Nat → Nat → Option Nat} {E : List ((Nat × Nat) × Int)} (h : TrieEI w b N E) : ∀ e ∈ E, Key e.1.1 e.1.2 := by
  obtain ⟨M, _, h2⟩ := h; exact h2.key
/-- found just where it is -/
theorem fnd_has {E : List ((Nat × Nat) × Int)} (hs : (E.map (·.1)).Pairwise ltK) (hk : ∀ e ∈ E, Key e.1.1 e.1.2) (a : Nat) (l : Int) (_ha : a < 4294967296) : fnd E a l = hasI E a l := by
  rw [Bool.eq_iff_iff]
  constructor
  · intro h
    have hlt := fnd_lt h
    unfold fnd at h
    simp only [Bool.and_eq_true, decide_eq_true_eq] at h
    have hm : E.getD (idx E a l) default ∈ E := by rw [List.getD_eq_getElem?_getD, List.getElem?_eq_getElem hlt]; exact List.getElem_mem _
    have hkk := hk _ hm
    obtain ⟨⟨-, h1⟩, h2⟩ := h
    unfold hasI
    simp only [Bool.and_eq_true, decide_eq_true_eq]
    have h3 : l.toNat = (E.getD (idx E a l) default).1.2 := by omega
    refine ⟨?_, List.mem_map.2 ⟨_, hm, Prod.ext h1 h3.symm⟩⟩
    have h9 := key_ok hkk
    rw [h1, h2] at h9; exact h9
  · intro h
    unfold hasI at h
    simp only [Bool.and_eq_true, decide_eq_true_eq] at h
    obtain ⟨hok, hm⟩ := h
    obtain ⟨h1, h2, h3⟩ := okP_iff.1 hok
    have hl : l = (l.toNat : Int) := by omega
    generalize l.toNat = m at *
    subst hl
    clear h1 h2 h3 hok
    induction E with
    | nil => cases hm
    | cons e r ih =>
      obtain ⟨h4, h5⟩ := List.pairwise_cons.1 (show (e.1 :: r.map (·.1)).Pairwise ltK from hs)
      rcases List.mem_cons.1 hm with h6 | h6
      · have hn : ¬ ltI e.1 a (m : Int) = true := fun h7 => ltK_irrefl _ (h6 ▸ (ltI_nat _ _ _).1 h7)
        have hi : idx (e :: r) a m = 0 := by unfold idx; rw [List.takeWhile_cons_of_neg (by exact hn)]; rfl
        have h7 : e.1 = (a, m) := h6.symm
        unfold fnd; rw [hi]; simp [h7]
      · have hl : ltI e.1 a (m : Int) = true := (ltI_nat _ _ _).2 (h4 _ h6)
        have hi : idx (e :: r) a m = idx r a m + 1 := by unfold idx; rw [List.takeWhile_cons_of_pos (by exact hl)]; rfl
        have hf : fnd (e :: r) a m = fnd r a m := by unfold fnd; rw [hi]; simp
        rw [hf]; exact ih h5 (fun e he => hk e (by simp [he])) h6
theorem del_ins {k : Nat × Nat} {x : Int} : ∀ {E : List ((Nat × Nat) × Int)}, k ∉ E.map (·.1) → delE k (insE k x E) = E
  | [], _ => by simp [insE, delE]
  | e :: r, hn => by
    simp only [List.map_cons, List.mem_cons, not_or] at hn
    have ih := del_ins (k := k) (x := x) hn.2
    have hself : delE k r = r := by
      unfold delE
      refine List.filter_eq_self.2 fun e he => ?_
      simp only [decide_eq_true_eq]
      exact fun e2 => hn.2 (List.mem_map.2 ⟨e, he, e2⟩)
    unfold insE
    split
    · unfold delE at ih ⊢
      rw [List.filter_cons, if_pos (by simp [Ne.symm hn.1]), ih]
    · rw [if_neg (Ne.symm hn.1)]
      unfold delE at hself ⊢
      rw [List.filter_cons, if_neg (by simp), List.filter_cons, if_pos (by simp [Ne.symm hn.1]), hself]
theorem back_same {E : List ((Nat × Nat) × Int)} {a : Nat} {l : Int} {x : Int} (h : hasI E a l = false) : delL (setL E a l x) a l = E := by
  unfold delL setL
  unfold hasI at h
  split
  · rename_i hok
    rw [hok, Bool.true_and, decide_eq_false_iff_not] at h
    exact del_ins h
  · rfl
end Go.Proofs.Ytdhebjeajdohoaa
