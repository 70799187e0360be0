/- Templates: odd, Size. -/
import Derived.Test.YtjjhnnnpikfjpaaNf
import Derived.Test.YtjjhnnnpikfjpaaNg
namespace Go.Proofs.Ytjjhnnnpikfjpaa
open Go.RowKit

def RFd : Rep (Int × Int) := ⟨80, 2, by decide, fun x => [.int .i64 x.1, .int .i64 x.2], fun _ => rfl, fun _ => rfl⟩
def FdOk (_ : World) (x : Int × Int) : Prop := (-9223372036854775808 ≤ x.1 ∧ x.1 ≤ 9223372036854775807) ∧ (-9223372036854775808 ≤ x.2 ∧ x.2 ≤ 9223372036854775807)
def FdsOk (w : World) (s : SlV (Int × Int)) : Prop := SlOk RFd FdOk w s
theorem FdsOk.keep {w w' : World} {s : SlV (Int × Int)} (h : FdsOk w s) (hb : Below w.heap.size w w') : FdsOk w' s := SlOk.keepW h hb (fun _ h => h)
/-- a template -/
structure Tm where
  id : Int
  fs : SlV (Int × Int)
def Tm.v (t : Tm) : Value := .agg #[.int .i64 t.id, .slice t.fs.a t.fs.n t.fs.c]
def inB (a n b : Int) : Bool := decide (a ≤ n) && decide (n ≤ b)
def oddFd (x : Int × Int) : Bool := !inB 0 x.1 32767 || !inB 1 x.2 65534
def oddT (t : Tm) : Bool := !inB 256 t.id 65535 || !inB 1 t.fs.n 32 || t.fs.l.any oddFd
def szF (l : List (Int × Int)) : Nat := (l.map fun x => x.2.toNat).sum
def szT (t : Tm) : Nat := if oddT t then 0 else szF t.fs.l
def CalleeF (f : Nat) : Value := .func (.func f) #[] #[]

set_option maxRecDepth 100000 in
theorem oddFd_any (x : Int × Int) (w : World) : Calls Try.prog 55 #[.agg #[.int .i64 x.1, .int .i64 x.2]] w fun e w' => e = .returned (.bool (oddFd x)) ∧ Below w.heap.size w w' := by
  have hal := (Below.refl w.heap.size w).alloc (Nat.le_refl _) (.cells #[.int .i64 x.1, .int .i64 x.2] 80)
  have HA := Lib.hid hal
  clear hal
  obtain ⟨a, b⟩ := x
  dsimp only at *
  have hr : oddFd (a, b) = (!(decide (0 ≤ a) && decide (a ≤ 32767)) || !(decide (1 ≤ b) && decide (b ≤ 65534))) := rfl
  generalize oddFd (a, b) = R at *
  have HR := Lib.hid hr
  clear hr
  go_enter Try.func55, Try.ntmps55
  go_wp2_with fail
  refine (within_any _ _ _ _).mono ?_
  rintro e w1 ⟨rfl, rfl⟩
  cases hc : (decide (0 ≤ a) && decide (a ≤ 32767)) with
  | false =>
    go_wp2_with fail
    go_ret
    exact ⟨by rw [HR.out, hc]; rfl, HA.out⟩
  | true =>
    go_wp2_with fail
    refine (within_any _ _ _ _).mono ?_
    rintro e w1 ⟨rfl, hw⟩
    have HW := Lib.hid hw
    clear hw
    go_wp2_with fail
    go_ret
    refine ⟨?_, HW.out ▸ HA.out⟩
    rw [HR.out, hc]; simp
set_option maxRecDepth 100000 in
set_option maxHeartbeats 400000 in
theorem index_fd {w : World} {s : SlV (Int × Int)} (h : FdsOk w s) : Calls Try.prog 58 #[.slice s.a s.n s.c, CalleeF 55] w fun e w' => (∃ r : Int, e = .returned (.int .i64 r) ∧ (decide (0 ≤ r)) = s.l.any oddFd) ∧ Below w.heap.size w w' := by
  have hlen := h.sl.len.symm
  have H := Lib.hid h
  clear h
  obtain ⟨oa, n, c, l⟩ := s
  dsimp only at *
  unfold CalleeF
  go_enter Try.func58, Try.ntmps58
  go_wp2_with fail
  go_loopw [5, 8] (fun _ iv wr => ∃ i : Nat, i ≤ n ∧ iv = .int .i64 i ∧ (l.take i).any oddFd = false ∧ Below w.heap.size w wr) (fun _ iv _ => n - (intOf iv).toNat)
  case atStart => exact ⟨0, Nat.zero_le _, rfl, rfl, Below.refl _ _⟩
  case round =>
    obtain ⟨i, hi, rfl, hany, hb⟩ := hrel
    obtain ⟨w2, rfl⟩ : ∃ w2 : World, w2 = wr := ⟨_, rfl⟩
    by_cases hlt : i < n
    · obtain ⟨bb, oo, rfl, hbb, hat⟩ := (H.out.keep hb).sl.at hlt
      have c0 := hat 0 (by decide)
      have c1 := hat 1 (by decide)
      simp only [RFd, Nat.add_zero, List.getElem?_cons_zero, List.getElem?_cons_succ] at c0 c1
      have hil : ((i : Int) < (n : Int)) = True := by simp; omega
      have ht : l.take (i + 1) = l.take i ++ [l.getD i default] := take_snoc l i (by omega)
      have hd := drop_get l i (by omega)
      have hmem : l.getD i default ∈ l := getD_mem (by omega)
      generalize l.getD i default = x at *
      have hw3 := wrapS hlt H.out.sl.max
      have HB := Lib.hid (And.intro hb (And.intro hany (And.intro ht hmem)))
      clear hb hany ht hmem hd hat
      go_wp2_with fail
      refine (oddFd_any x _).mono ?_
      rintro e w3 ⟨rfl, hb3⟩
      have HC := Lib.hid (bcall HB.out.1 (Nat.le_refl _) hb3)
      clear hb3
      cases ho : oddFd x with
      | true =>
        go_wp2_with fail
        go_ret
        refine ⟨⟨_, rfl, ?_⟩, HC.out⟩
        have : l.any oddFd = true := List.any_eq_true.2 ⟨x, HB.out.2.2.2, ho⟩
        rw [this]; simp
      | false =>
        go_wp2_with fail
        exact ⟨⟨i + 1, hlt, by first | rw [hw3] | rw [Int.natCast_succ], by rw [HB.out.2.2.1, List.any_append, HB.out.2.1]; simp [ho], HC.out⟩, by first | (rw [hw3]; exact mSucc hlt) | (rw [← Int.natCast_succ]; exact mSucc hlt)⟩
    · obtain rfl : n = i := by omega
      have hil : ((n : Int) < (n : Int)) = False := by simp
      rw [List.take_of_length_le (by omega)] at hany
      have HB := Lib.hid (And.intro hb hany)
      clear hb hany
      go_wp2_with fail
      go_ret
      exact ⟨⟨_, rfl, by rw [HB.out.2]; decide⟩, HB.out.1⟩
theorem contains_fd {w : World} {s : SlV (Int × Int)} (h : FdsOk w s) : Calls Try.prog 54 #[.slice s.a s.n s.c, CalleeF 55] w fun e w' => e = .returned (.bool (s.l.any oddFd)) ∧ Below w.heap.size w w' := by
  have H := Lib.hid (index_fd h)
  clear h
  generalize s.l.any oddFd = R at *
  unfold CalleeF at *
  go_enter Try.func54, Try.ntmps54
  go_wp2_with fail
  refine (H.out).mono ?_
  rintro e w3 ⟨⟨r, rfl, hr⟩, hb⟩
  have HC := Lib.hid (And.intro hr hb)
  clear hr hb
  go_wp2_with fail
  go_ret
  refine ⟨?_, HC.out.2⟩
  rw [← HC.out.1]
  rfl
set_option maxRecDepth 100000 in
theorem odd_tm (t : Tm) (w : World) (h : FdsOk w t.fs) : Calls Try.prog 43 #[t.v] w fun e w' => e = .returned (.bool (oddT t)) ∧ Below w.heap.size w w' := by
  have hal := (Below.refl w.heap.size w).alloc (Nat.le_refl _) (.cells #[.int .i64 t.id, .slice t.fs.a t.fs.n t.fs.c] 41)
  have hr : oddT t = (!(decide (256 ≤ t.id) && decide (t.id ≤ 65535)) || !(decide ((1 : Int) ≤ t.fs.n) && decide ((t.fs.n : Int) ≤ 32)) || t.fs.l.any oddFd) := rfl
  unfold Tm.v
  obtain ⟨id, s⟩ := t
  dsimp only at *
  have hc := contains_fd (h.keep hal)
  generalize s.l.any oddFd = Y at *
  generalize oddT _ = R at *
  have HA := Lib.hid (And.intro hal (And.intro hr hc))
  clear hal hr hc h
  unfold CalleeF at *
  go_enter Try.func43, Try.ntmps43
  go_wp2_with fail
  refine (within_any _ _ _ _).mono ?_
  rintro e w1 ⟨rfl, hw⟩
  subst w1
  cases h1 : (decide (256 ≤ id) && decide (id ≤ 65535)) with
  | false =>
    go_wp2_with fail
    go_ret
    exact ⟨by rw [HA.out.2.1, h1]; rfl, HA.out.1⟩
  | true =>
    go_wp2_with fail
    refine (within_any _ _ _ _).mono ?_
    rintro e w1 ⟨rfl, hw⟩
    subst w1
    cases h2 : (decide ((1 : Int) ≤ s.n) && decide ((s.n : Int) ≤ 32)) with
    | false =>
      go_wp2_with fail
      go_ret
      exact ⟨by rw [HA.out.2.1, h1, h2]; rfl, HA.out.1⟩
    | true =>
      go_wp2_with fail
      refine (HA.out.2.2).mono ?_
      rintro e w3 ⟨rfl, hb⟩
      have HC := Lib.hid (bcall HA.out.1 (Nat.le_refl _) hb)
      clear hb
      go_wp2_with fail
      go_ret
      exact ⟨by rw [HA.out.2.1, h1, h2]; simp, HC.out⟩
def TmS (b : Nat) (cs : Array Value) (w : World) : Prop := w.heap[b]? = some (.cells cs 41)
theorem TmS.cells {b : Nat} {x0 x1 : Value} {w : World} (h : TmS b #[x0, x1] w) : w.cell? ⟨b, 0, none⟩ = some x0 ∧ w.cell? ⟨b, 1, none⟩ = some x1 := ⟨cell_of h rfl, cell_of h rfl⟩
theorem TmS.on {b : Nat} {cs : Array Value} {w w' : World} (h : TmS b cs w) (hb : Below w.heap.size w w') : TmS b cs w' := (hb.block _ (lt_of_blk h)).trans h
theorem oddFd_false {x : Int × Int} (h : oddFd x = false) : 0 ≤ x.1 ∧ x.1 ≤ 32767 ∧ 1 ≤ x.2 ∧ x.2 ≤ 65534 := by
  simp [oddFd, inB] at h
  omega
theorem oddT_false {t : Tm} (h : oddT t = false) : 256 ≤ t.id ∧ t.id ≤ 65535 ∧ 1 ≤ t.fs.n ∧ t.fs.n ≤ 32 ∧ ∀ x ∈ t.fs.l, oddFd x = false := by
  simp [oddT, inB] at h
  obtain ⟨⟨h1, h2⟩, h3⟩ := h
  refine ⟨by omega, by omega, by omega, by omega, fun x hx => ?_⟩
  have := h3 x.1 x.2 hx
  simpa using this
theorem szF_snoc (l : List (Int × Int)) (x : Int × Int) : szF (l ++ [x]) = szF l + x.2.toNat := by simp [szF]
theorem szF_take (l : List (Int × Int)) (h : ∀ x ∈ l, oddFd x = false) (i : Nat) : szF (l.take i) ≤ i * 65534 := by
  induction i with
  | zero => simp [szF]
  | succ i ih =>
    by_cases hi : i < l.length
    · rw [take_snoc l i hi, szF_snoc]
      have := oddFd_false (h _ (getD_mem hi))
      omega
    · rw [List.take_of_length_le (by omega)] at ih ⊢
      exact Nat.le_trans ih (Nat.mul_le_mul_right _ (Nat.le_succ i))
set_option maxRecDepth 100000 in
set_option maxHeartbeats 400000 in
theorem size_tm (t : Tm) (w : World) (h : FdsOk w t.fs) : Calls Try.prog 16 #[t.v] w fun e w' => e = .returned (.int .i64 (szT t : Nat)) ∧ Below w.heap.size w w' := by
  have hal := (Below.refl w.heap.size w).alloc (Nat.le_refl _) (.cells #[.int .i64 t.id, .slice t.fs.a t.fs.n t.fs.c] 41)
  have hb1 : TmS w.heap.size #[.int .i64 t.id, .slice t.fs.a t.fs.n t.fs.c] (w.alloc (.cells #[.int .i64 t.id, .slice t.fs.a t.fs.n t.fs.c] 41)) := hnew _ _
  have ho := odd_tm t _ (h.keep hal)
  have hof := @oddT_false t
  have hsz : szT t = if oddT t then 0 else szF t.fs.l := rfl
  unfold Tm.v at *
  generalize oddT t = R at *
  generalize szT t = Z at *
  obtain ⟨id, s⟩ := t
  obtain ⟨oa, n, c, l⟩ := s
  dsimp only at *
  have HA := Lib.hid (And.intro hal (And.intro hb1 (And.intro ho (And.intro h hof))))
  have hlen := h.sl.len.symm
  dsimp only at hlen
  clear hal hb1 ho h hof
  go_enter Try.func16, Try.ntmps16
  go_wp2_with fail
  refine (HA.out.2.2.1).mono ?_
  rintro e w1 ⟨rfl, hb⟩
  have HB := Lib.hid (And.intro (bcall HA.out.1 (Nat.le_refl _) hb) (HA.out.2.1.on hb))
  clear hb
  cases R with
  | true =>
    have HZ := Lib.hid hsz
    clear hsz
    go_wp2_with fail
    go_ret
    exact ⟨by rw [HZ.out]; rfl, HB.out.1⟩
  | false =>
    have HZ := Lib.hid hsz
    clear hsz
    obtain ⟨e0, e1⟩ := HB.out.2.cells
    go_wp2_with fail
    clear e0 e1
    go_loopw [3, 5, 11] (fun sv _ iv wr => ∃ i : Nat, i ≤ n ∧ iv = .int .i64 i ∧ sv = .int .i64 (szF (l.take i) : Nat) ∧ Below w.heap.size w wr) (fun _ _ iv _ => n - (intOf iv).toNat)
    case atStart => exact ⟨0, Nat.zero_le _, rfl, rfl, HB.out.1⟩
    case round =>
      obtain ⟨i, hi, rfl, rfl, hb⟩ := hrel
      obtain ⟨w2, rfl⟩ : ∃ w2 : World, w2 = wr := ⟨_, rfl⟩
      by_cases hlt : i < n
      · obtain ⟨bb, oo, rfl, hbb, hat⟩ := (HA.out.2.2.2.1.keep hb).sl.at hlt
        have c0 := hat 0 (by decide)
        have c1 := hat 1 (by decide)
        simp only [RFd, Nat.add_zero, List.getElem?_cons_zero, List.getElem?_cons_succ] at c0 c1
        have hil : ((i : Int) < (n : Int)) = True := by simp; omega
        have ht : l.take (i + 1) = l.take i ++ [l.getD i default] := take_snoc l i (by omega)
        have hodd := HA.out.2.2.2.2 (by first | exact rfl | trivial)
        have hx := oddFd_false (hodd.2.2.2.2 _ (getD_mem (i := i) (by first | omega | (simp only; omega))))
        have hst := szF_take l hodd.2.2.2.2 i
        have h32 := hodd.2.2.2.1
        try dsimp only at hx hst h32
        generalize l.getD i default = x at *
        obtain ⟨x1, x2⟩ := x
        dsimp only at *
        obtain ⟨xn, rfl⟩ := Int.eq_ofNat_of_zero_le (a := x2) (by omega)
        have hs1 : szF (l.take (i + 1)) = szF (l.take i) + xn := by rw [ht, szF_snoc]; rfl
        generalize szF (l.take i) = k at *
        have hk : k ≤ 3000000 := by have : i * 65534 ≤ 32 * 65534 := Nat.mul_le_mul_right _ (by omega); omega
        have hw1 : IntKind.i64.wrap ((k : Int) + (xn : Int)) = ((k + xn : Nat) : Int) := by rw [IntWalk.i64_in _ (by omega)]; omega
        have hw3 := wrapS hlt HA.out.2.2.2.1.sl.max
        have HC := Lib.hid (And.intro (hb.alloc hb.size (.cells #[.int .i64 x1, .int .i64 (xn : Int)] 80)) hs1)
        clear hb ht hodd hx hst h32 hs1 hk hat
        go_wp2_with fail
        exact ⟨⟨i + 1, hlt, by first | rw [hw3] | rw [Int.natCast_succ], by rw [HC.out.2] <;> first | rfl | (rw [hw1]), HC.out.1⟩, by first | (rw [hw3]; exact mSucc hlt) | (rw [← Int.natCast_succ]; exact mSucc hlt)⟩
      · obtain rfl : n = i := by omega
        have hil : ((n : Int) < (n : Int)) = False := by simp
        have he : l.take n = l := List.take_of_length_le (by omega)
        rw [he]
        have HC := Lib.hid hb
        clear hb he
        go_wp2_with fail
        go_ret
        exact ⟨by rw [HZ.out]; rfl, HC.out⟩
theorem oddT_def (id : Int) (s : SlV (Int × Int)) : oddT ⟨id, s⟩ = (!inB 256 id 65535 || !inB 1 s.n 32 || s.l.any oddFd) := rfl
theorem inB_true {a n b : Int} (h1 : a ≤ n) (h2 : n ≤ b) : inB a n b = true := by simp [inB, h1, h2]
theorem inB_false {a n b : Int} (h : n < a ∨ b < n) : inB a n b = false := by simp [inB]; omega
set_option maxRecDepth 100000 in
set_option maxHeartbeats 1000000 in
theorem one_tm (t : Tm) (w : World) (h : FdsOk w t.fs) : Calls Try.prog 18 #[t.v] w fun e w' => e = .returned (.bool (!oddT t)) ∧ Below w.heap.size w w' := by
  have hal := (Below.refl w.heap.size w).alloc (Nat.le_refl _) (.cells #[.int .i64 t.id, .slice t.fs.a t.fs.n t.fs.c] 41)
  have hb1 : TmS w.heap.size #[.int .i64 t.id, .slice t.fs.a t.fs.n t.fs.c] (w.alloc (.cells #[.int .i64 t.id, .slice t.fs.a t.fs.n t.fs.c] 41)) := hnew _ _
  unfold Tm.v
  obtain ⟨id, s⟩ := t
  obtain ⟨oa, n, c, l⟩ := s
  dsimp only at *
  have hr := oddT_def id ⟨oa, n, c, l⟩
  dsimp only at hr
  generalize oddT _ = R at *
  have HR := Lib.hid hr
  have HA := Lib.hid (And.intro hal (And.intro hb1 h))
  have hlen := h.sl.len.symm
  dsimp only at hlen
  clear hal hr h
  obtain ⟨e0, e1⟩ := hb1.cells
  clear hb1
  go_enter Try.func18, Try.ntmps18
  by_cases h1 : id < 256
  · have hR : R = true := by rw [HR.out, inB_false (.inl h1)]; rfl
    have g1 : (id < 256) = True := by simp [h1]
    subst hR
    clear h1
    go_wp2_with fail
    go_ret
    exact ⟨rfl, HA.out.1⟩
  · by_cases h2 : 65535 < id
    · have hR : R = true := by rw [HR.out, inB_false (.inr h2)]; rfl
      have g1 : (id < 256) = False := by simp [h1]
      have g2 : (65535 < id) = True := by simp [h2]
      subst hR
      clear h1 h2
      go_wp2_with fail
      go_ret
      exact ⟨rfl, HA.out.1⟩
    · have hid1 : inB 256 id 65535 = true := inB_true (by omega) (by omega)
      have g1 : (id < 256) = False := by simp [h1]
      have g2 : (65535 < id) = False := by simp [h2]
      by_cases h3 : n < 1
      · have hR : R = true := by rw [HR.out, hid1, inB_false (n := (n : Int)) (.inl (by omega))]; rfl
        have g3 : ((n : Int) < 1) = True := by simp; omega
        subst hR
        clear h1 h2 hid1 h3
        go_wp2_with fail
        go_ret
        exact ⟨rfl, HA.out.1⟩
      · by_cases h4 : 32 < n
        · have hR : R = true := by rw [HR.out, hid1, inB_false (n := (n : Int)) (.inr (by omega))]; rfl
          have g3 : ((n : Int) < 1) = False := by simp; omega
          have g4 : ((32 : Int) < (n : Int)) = True := by simp; omega
          subst hR
          clear h1 h2 hid1 h3 h4
          go_wp2_with fail
          go_ret
          exact ⟨rfl, HA.out.1⟩
        · have hn1 : inB 1 n 32 = true := inB_true (by omega) (by omega)
          have hR : R = l.any oddFd := by rw [HR.out, hid1, hn1]; rfl
          have g3 : ((n : Int) < 1) = False := by simp; omega
          have g4 : ((32 : Int) < (n : Int)) = False := by simp; omega
          have HRR := Lib.hid hR
          clear h1 h2 hid1 h3 h4 hn1 hR
          go_wp2_with fail
          clear e0 e1
          generalize w.alloc (.cells #[.int .i64 id, .slice oa n c] 41) = W at *
          go_loopw [3, 4] (fun iv _ wr => ∃ i : Nat, i ≤ n ∧ iv = .int .i64 i ∧ (l.take i).any oddFd = false ∧ Below w.heap.size w wr ∧ TmS w.heap.size #[.int .i64 id, .slice oa n c] wr) (fun iv _ _ => n - (intOf iv).toNat)
          case atStart => exact ⟨0, Nat.zero_le _, rfl, rfl, HA.out.1, HA.out.2.1⟩
          case round =>
            obtain ⟨i, hi, rfl, hany, hb, ht1⟩ := hrel
            obtain ⟨w2, rfl⟩ : ∃ w2 : World, w2 = wr := ⟨_, rfl⟩
            obtain ⟨e0, e1⟩ := ht1.cells
            by_cases hlt : i < n
            · obtain ⟨bb, oo, rfl, hbb, hat⟩ := (HA.out.2.2.keep hb).sl.at hlt
              have c0 := hat 0 (by decide)
              have c1 := hat 1 (by decide)
              simp only [RFd, Nat.add_zero, List.getElem?_cons_zero, List.getElem?_cons_succ] at c0 c1
              have hil : ((i : Int) < (n : Int)) = True := by simp; omega
              have ht : l.take (i + 1) = l.take i ++ [l.getD i default] := take_snoc l i (by omega)
              have hmem : l.getD i default ∈ l := getD_mem (by omega)
              generalize l.getD i default = x at *
              obtain ⟨x1, x2⟩ := x
              have hal := (Below.refl w2.heap.size w2).alloc (Nat.le_refl _) (.cells #[.int .i64 x1, .int .i64 x2] 80)
              have hw3 := wrapS hlt HA.out.2.2.sl.max
              have HB := Lib.hid (And.intro (bcall hb (Nat.le_refl _) hal) (And.intro (ht1.on hal) (And.intro hany (And.intro ht hmem))))
              dsimp only at *
              clear hb ht1 hany ht hmem hat hal
              have BAD : (x1 < 0 ∨ 32767 < x1 ∨ x2 < 1 ∨ 65534 < x2) → R = true := fun hh => by
                rw [HRR.out]
                refine List.any_eq_true.2 ⟨_, HB.out.2.2.2.2, ?_⟩
                rcases hh with hh | hh | hh | hh
                · simp [oddFd, inB]; omega
                · simp [oddFd, inB]; omega
                · simp [oddFd, inB]; omega
                · simp [oddFd, inB]; omega
              have HBAD := Lib.hid BAD
              clear BAD
              by_cases k0 : x1 < 0
              · have m0 : (x1 < 0) = True := by simp [k0]
                have hR := HBAD.out (by omega)
                subst hR
                go_wp2_with fail
                go_ret
                exact ⟨rfl, HB.out.1⟩
              · have m0 : (x1 < 0) = False := by simp [k0]
                by_cases k1 : 32767 < x1
                · have m1 : (32767 < x1) = True := by simp [k1]
                  have hR := HBAD.out (by omega)
                  subst hR
                  go_wp2_with fail
                  go_ret
                  exact ⟨rfl, HB.out.1⟩
                · have m1 : (32767 < x1) = False := by simp [k1]
                  by_cases k2 : x2 < 1
                  · have m2 : (x2 < 1) = True := by simp [k2]
                    have hR := HBAD.out (by omega)
                    subst hR
                    go_wp2_with fail
                    go_ret
                    exact ⟨rfl, HB.out.1⟩
                  · have m2 : (x2 < 1) = False := by simp [k2]
                    by_cases k3 : 65534 < x2
                    · have m3 : (65534 < x2) = True := by simp [k3]
                      have hR := HBAD.out (by omega)
                      subst hR
                      go_wp2_with fail
                      go_ret
                      exact ⟨rfl, HB.out.1⟩
                    · have m3 : (65534 < x2) = False := by simp [k3]
                      have hodd : oddFd (x1, x2) = false := by simp [oddFd, inB]; omega
                      have HO := Lib.hid hodd
                      clear hodd
                      go_wp2_with fail
                      exact ⟨⟨i + 1, hlt, by first | rw [hw3] | rw [Int.natCast_succ], by rw [HB.out.2.2.2.1, List.any_append, HB.out.2.2.1]; simp [HO.out], HB.out.1, HB.out.2.1⟩, by first | (rw [hw3]; exact mSucc hlt) | (rw [← Int.natCast_succ]; exact mSucc hlt)⟩
            · obtain rfl : n = i := by omega
              have hil : ((n : Int) < (n : Int)) = False := by simp
              rw [List.take_of_length_le (by omega)] at hany
              have HB := Lib.hid (And.intro hb hany)
              clear hb hany
              go_wp2_with fail
              go_ret
              exact ⟨by rw [HRR.out, HB.out.2]; rfl, HB.out.1⟩
end Go.Proofs.Ytjjhnnnpikfjpaa
