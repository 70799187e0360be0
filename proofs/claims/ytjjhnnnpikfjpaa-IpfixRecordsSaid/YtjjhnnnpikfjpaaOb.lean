/- What is put is got; what is got is put. -/
import Derived.Test.YtjjhnnnpikfjpaaNn
namespace Go.Proofs.Ytjjhnnnpikfjpaa
open Go.RowKit

theorem rdB_app {k : Nat} {x r : List Nat} (h : x.length = k) : rdB (k : Int) (x ++ r) false = (x, r, false) := by
  unfold rdB
  rw [if_neg (by rw [List.length_append]; simp; omega)]
  simp only [Int.toNat_natCast, ← h, List.take_left', List.drop_left']
theorem rdB_app2 {x r : List Nat} (h : x.length = 2) : rdB 2 (x ++ r) false = (x, r, false) := rdB_app (k := 2) h
theorem rdB_app4 {x r : List Nat} (h : x.length = 4) : rdB 4 (x ++ r) false = (x, r, false) := rdB_app (k := 4) h
theorem rdSet_setB {x : Int × SlV Nat} {r : List Nat} (hn : x.2.n = x.2.l.length) (h1 : 0 ≤ x.1 ∧ x.1 ≤ 65535) (h2 : x.2.n ≤ 65000) : rdSet (setB x ++ r) false = ((x.1.toNat, x.2.l), r, false) := by
  have e : setB x ++ r = be 2 x.1.toNat ++ (be 2 (x.2.n + 4) ++ (x.2.l ++ r)) := by simp [setB]
  rw [e]
  unfold rdSet
  simp only [rdB_app2 (be_length 2 _), getN_be 2 x.1.toNat (by omega), getN_be 2 (x.2.n + 4) (by omega)]
  rw [show (((x.2.n + 4 : Nat) : Int) - 4) = ((x.2.n : Nat) : Int) by omega, rdB_app hn.symm]
theorem gs_body (l : List (Int × SlV Nat)) (h : ∀ x ∈ l, x.2.n = x.2.l.length ∧ (0 ≤ x.1 ∧ x.1 ≤ 65535) ∧ x.2.n ≤ 65000) : ∀ f, (bodyB l).length < f → gs f (bodyB l) false = (l.map (fun x => (x.1.toNat, x.2.l)), false) := by
  induction l with
  | nil => intro f _; exact gs_nil f
  | cons x l ih =>
    intro f hf
    obtain ⟨h1, h2, h3⟩ := h x (by simp)
    have e : bodyB (x :: l) = setB x ++ bodyB l := by simp [bodyB]
    have hl : (setB x).length = x.2.n + 4 := by simp [setB, be_length, h1]; omega
    rw [e, List.length_append] at hf
    obtain ⟨f', rfl⟩ : ∃ f', f = f' + 1 := ⟨f - 1, by omega⟩
    rw [e, gs_step (by intro h0; have := congrArg List.length h0; rw [List.length_append, List.length_nil] at this; omega), rdSet_setB h1 h2 h3, ih (fun y hy => h y (by simp [hy])) f' (by omega)]
    rfl
/-- what is put is got -/
theorem getP_pkB {w : World} (p : Pk) (hs : StsOk w p.ss) (hok : okP p = true) : ∃ P, getP (pkB p) = some P ∧ p.is P := by
  obtain ⟨⟨a, b, d, ha, hb, hd, ha2, hb2, hd2⟩, hz⟩ := okP_nat hok
  obtain ⟨hz1, hz2⟩ := sz_ok p.ss.l 16 hz
  have hall : ∀ x ∈ p.ss.l, x.2.n = x.2.l.length ∧ (0 ≤ x.1 ∧ x.1 ≤ 65535) ∧ x.2.n ≤ 65000 := fun x hx => by
    have h1 := oddI_false (hz2 x hx)
    exact ⟨(hs.all x hx).2.sl.len, by omega, by omega⟩
  have his : p.is ⟨a, b, d, p.ss.l.map (fun x => (x.1.toNat, x.2.l))⟩ := by
    refine ⟨ha, hb, hd, ?_⟩
    rw [List.map_map]
    refine List.map_congr_left fun x hx => ?_
    obtain ⟨h1, h2, h3⟩ := hall x hx
    simp only [Function.comp, pj, toS, ← h1]
    rw [Int.toNat_of_nonneg h2.1]
  refine ⟨_, ?_, his⟩
  have hlen : (pkB p).length = sz 16 p.ss.l := by
    rw [pkB, List.length_append, headB_length, bodyB_length p.ss.l hs.all]
    omega
  have e : pkB p = be 2 10 ++ (be 2 (sz 16 p.ss.l) ++ (be 4 a ++ (be 4 b ++ (be 4 d ++ bodyB p.ss.l)))) := by
    simp only [pkB, headB, ha, hb, hd, Int.toNat_natCast, bes]
    simp
  unfold getP
  rw [hlen, e]
  simp only [rdB_app2 (be_length 2 _), rdB_app4 (be_length 4 _), getN_be 2 10 (by omega), getN_be 2 (sz 16 p.ss.l) (by omega), getN_be 4 a (by omega), getN_be 4 b (by omega), getN_be 4 d (by omega), gs_body p.ss.l hall _ (Nat.lt_succ_self _)]
  rw [if_neg (by simp), if_neg (by rw [← his.eqs.1, hok]; simp)]
theorem be_getN (x : List Nat) (h : Bytes x) : be x.length (getN x) = x := by
  generalize hn : x.length = n
  induction n generalizing x with
  | zero => cases x with
    | nil => rfl
    | cons a r => cases hn
  | succ n ih =>
    have hne : x ≠ [] := by intro e; rw [e] at hn; cases hn
    obtain ⟨y, b, rfl⟩ : ∃ y b, x = y ++ [b] := ⟨x.dropLast, x.getLast hne, (List.dropLast_concat_getLast hne).symm⟩
    have hl : y.length = n := by rw [List.length_append, List.length_singleton] at hn; omega
    have h1 := ih y (fun z hz => h z (by simp [hz])) hl
    have h2 : b < 256 := h b (by simp)
    rw [getN_snoc, be, show (256 * getN y + b) / 256 = getN y by omega, show (256 * getN y + b) % 256 = b by omega, h1]
theorem rdB_inv {n : Int} {l : List Nat} {bad : Bool} (h : (rdB n l bad).2.2 = false) : bad = false ∧ 0 ≤ n ∧ l = (rdB n l bad).1 ++ (rdB n l bad).2.1 ∧ ((rdB n l bad).1.length : Int) = n := by
  unfold rdB at *
  by_cases hc : bad = true ∨ n < 0 ∨ (l.length : Int) < n
  · rw [if_pos hc] at h; cases h
  · rw [if_neg hc] at h ⊢
    refine ⟨by cases bad <;> simp_all, by omega, by simp, by simp; omega⟩
theorem rdSet_inv {l : List Nat} (hb : Bytes l) (h : (rdSet l false).2.2 = false) : l = setB (toS (rdSet l false).1) ++ (rdSet l false).2.1 := by
  unfold rdSet at h ⊢
  dsimp only at h ⊢
  obtain ⟨h3, h4, h5, h6⟩ := rdB_inv h
  obtain ⟨h7, h8, h9, h10⟩ := rdB_inv h3
  obtain ⟨h11, h12, h13, h14⟩ := rdB_inv h7
  have hb1 := rdB_bytes 2 l false hb
  have hb2 := rdB_bytes 2 _ (rdB 2 l false).2.2 (rdB_rest 2 l false hb)
  have e1 := be_getN _ hb1
  have e2 := be_getN _ hb2
  generalize hA : rdB 2 l false = A at *
  generalize hB : rdB 2 A.2.1 A.2.2 = B at *
  generalize rdB ((getN B.1 : Int) - 4) B.2.1 B.2.2 = D at *
  have l1 : A.1.length = 2 := by omega
  have l2 : B.1.length = 2 := by omega
  rw [l1] at e1
  rw [l2] at e2
  simp only [setB, toS, Int.toNat_natCast]
  rw [show D.1.length + 4 = getN B.1 by omega, e1, e2]
  rw [List.append_assoc, List.append_assoc, ← h5, ← h9]
  exact h13
theorem gs_inv : ∀ (f : Nat) (l : List Nat), Bytes l → l.length < f → (gs f l false).2 = false → bodyB ((gs f l false).1.map toS) = l := by
  intro f
  induction f with
  | zero => intro l _ h; omega
  | succ f ih =>
    intro l hb hf h
    by_cases hnil : l = []
    · subst hnil; rw [gs_nil]; rfl
    · rw [gs_step hnil] at h ⊢
      dsimp only at h ⊢
      have hbad : (rdSet l false).2.2 = false := by
        cases hc : (rdSet l false).2.2 with
        | false => rfl
        | true => rw [hc, gs_bad] at h; cases h
      have hinv := rdSet_inv hb hbad
      have hlt := rdSet_lt hnil
      rw [hbad] at h hlt ⊢
      have hb2 : Bytes (rdSet l false).2.1 := fun x hx => hb x (by rw [hinv]; exact List.mem_append_right _ hx)
      have := ih _ hb2 (by rcases hlt with h1 | h1; cases h1; omega) h
      rw [List.map_cons]
      show setB (toS (rdSet l false).1) ++ bodyB _ = l
      rw [this]
      exact hinv.symm
/-- what is got is put -/
theorem pkB_getP {l : List Nat} (hb : Bytes l) {P : PP} (h : getP l = some P) : okP P.pk = true ∧ pkB P.pk = l := by
  unfold getP at h
  dsimp only at h
  generalize hA : rdB 2 l false = A at *
  generalize hB : rdB 2 A.2.1 A.2.2 = B at *
  generalize hC : rdB 4 B.2.1 B.2.2 = C at *
  generalize hD : rdB 4 C.2.1 C.2.2 = D at *
  generalize hE : rdB 4 D.2.1 D.2.2 = E at *
  by_cases h1 : getN A.1 ≠ 10 ∨ getN B.1 ≠ l.length
  · rw [if_pos h1] at h; cases h
  rw [if_neg h1] at h
  by_cases h2 : (gs (E.2.1.length + 1) E.2.1 E.2.2).2 = true ∨ okP (PP.pk ⟨getN C.1, getN D.1, getN E.1, (gs (E.2.1.length + 1) E.2.1 E.2.2).1⟩) = false
  · rw [if_pos h2] at h; cases h
  rw [if_neg h2] at h
  injection h with h
  subst h
  have hok : okP (PP.pk ⟨getN C.1, getN D.1, getN E.1, (gs (E.2.1.length + 1) E.2.1 E.2.2).1⟩) = true := by
    cases hc : okP (PP.pk ⟨getN C.1, getN D.1, getN E.1, (gs (E.2.1.length + 1) E.2.1 E.2.2).1⟩) with
    | true => rfl
    | false => exact absurd (.inr hc) h2
  refine ⟨hok, ?_⟩
  have hgb : (gs (E.2.1.length + 1) E.2.1 E.2.2).2 = false := by
    cases hc : (gs (E.2.1.length + 1) E.2.1 E.2.2).2 with
    | false => rfl
    | true => exact absurd (.inl hc) h2
  have hE2 : E.2.2 = false := by
    cases hc : E.2.2 with
    | false => rfl
    | true => rw [hc, gs_bad] at hgb; cases hgb
  have iE := rdB_inv (n := 4) (l := D.2.1) (bad := D.2.2) (by rw [hE]; exact hE2)
  have iD := rdB_inv (n := 4) (l := C.2.1) (bad := C.2.2) (by rw [hD]; exact iE.1)
  have iC := rdB_inv (n := 4) (l := B.2.1) (bad := B.2.2) (by rw [hC]; exact iD.1)
  have iB := rdB_inv (n := 2) (l := A.2.1) (bad := A.2.2) (by rw [hB]; exact iC.1)
  have iA := rdB_inv (n := 2) (l := l) (bad := false) (by rw [hA]; exact iB.1)
  rw [hE] at iE; rw [hD] at iD; rw [hC] at iC; rw [hB] at iB; rw [hA] at iA
  have hl : l = A.1 ++ (B.1 ++ (C.1 ++ (D.1 ++ (E.1 ++ E.2.1)))) := by rw [← iE.2.2.1, ← iD.2.2.1, ← iC.2.2.1, ← iB.2.2.1]; exact iA.2.2.1
  have hmem : ∀ x, (x ∈ A.1 ∨ x ∈ B.1 ∨ x ∈ C.1 ∨ x ∈ D.1 ∨ x ∈ E.1 ∨ x ∈ E.2.1) → x < 256 := fun x hx => hb x (by rw [hl]; simpa using hx)
  have eA := be_getN A.1 (fun x hx => hmem x (.inl hx))
  have eB := be_getN B.1 (fun x hx => hmem x (.inr (.inl hx)))
  have eC := be_getN C.1 (fun x hx => hmem x (.inr (.inr (.inl hx))))
  have eD := be_getN D.1 (fun x hx => hmem x (.inr (.inr (.inr (.inl hx)))))
  have eE := be_getN E.1 (fun x hx => hmem x (.inr (.inr (.inr (.inr (.inl hx))))))
  have hbody := gs_inv (E.2.1.length + 1) E.2.1 (fun x hx => hmem x (.inr (.inr (.inr (.inr (.inr hx)))))) (Nat.lt_succ_self _) (by rw [hE2] at hgb; exact hgb)
  rw [hE2] at hok ⊢
  generalize gs (E.2.1.length + 1) E.2.1 false = G at *
  obtain ⟨-, hz⟩ := okP_nat hok
  obtain ⟨hz1, -⟩ := sz_ok _ 16 hz
  have hbl : (bodyB (G.1.map toS)).length = ssum (G.1.map toS) := by
    have : ∀ L : List (Nat × List Nat), (bodyB (L.map toS)).length = ssum (L.map toS) := by
      intro L
      induction L with
      | nil => rfl
      | cons x r ih =>
        unfold bodyB ssum at *
        simp only [List.map_cons, List.flatMap_cons, List.sum_cons, List.length_append, setB, be_length, ih, toS]
    exact this _
  have l1 : A.1.length = 2 := by omega
  have l2 : B.1.length = 2 := by omega
  have l3 : C.1.length = 4 := by omega
  have l4 : D.1.length = 4 := by omega
  have l5 : E.1.length = 4 := by omega
  have hsz : sz 16 (G.1.map toS) = l.length := by
    have hll := congrArg List.length hl
    simp only [List.length_append, l1, l2, l3, l4, l5] at hll
    have hbl2 := congrArg List.length hbody
    have : sz 16 (G.1.map toS) = 16 + ssum (G.1.map toS) := hz1
    omega
  rw [l1] at eA; rw [l2] at eB; rw [l3] at eC; rw [l4] at eD; rw [l5] at eE
  show headB _ _ _ (sz 16 (G.1.map toS)) ++ bodyB (G.1.map toS) = l
  rw [hbody, hsz]
  have h10 : getN A.1 = 10 := by omega
  have hBl : getN B.1 = l.length := by omega
  rw [h10] at eA
  rw [hBl] at eB
  simp only [headB, bes, List.flatMap_cons, List.flatMap_nil, List.append_nil, PP.pk, Int.toNat_natCast, eA, eB, eC, eD, eE]
  conv => rhs; rw [hl]
  simp
end Go.Proofs.Ytjjhnnnpikfjpaa
