/- Packets in memory; oddSet, size, Check. -/
import Derived.Test.YtjjhnnnpikfjpaaNe
import Derived.Test.YtjjhnnnpikfjpaaNa
import Derived.Test.YtjjhnnnpikfjpaaOp
namespace Go.Proofs.Ytjjhnnnpikfjpaa
open Go.RowKit

theorem alc {B : Nat} {w w2 w3 : World} {o : Obj} (h : Below B w w2) (hB : B ≤ w.heap.size) (h3 : Below (w2.alloc o).heap.size (w2.alloc o) w3) : Below B w w3 :=
  have hB2 := Nat.le_trans hB h.size
  have ha := h.alloc hB2 o
  ha.trans (h3.mono (Nat.le_trans hB ha.size))
theorem bcall {B : Nat} {w w2 w3 : World} (h : Below B w w2) (hB : B ≤ w.heap.size) (h3 : Below w2.heap.size w2 w3) : Below B w w3 := h.trans (h3.mono (Nat.le_trans hB h.size))
theorem blk_alc {w2 w3 : World} {o : Obj} (h : Below (w2.alloc o).heap.size (w2.alloc o) w3) : w3.heap[w2.heap.size]? = some o := (h.block _ (lt_of_blk (hnew _ _))).trans (hnew _ _)
theorem wrapS {i n : Nat} (h : i < n) (hn : n ≤ maxLen) : wrap64 ((i : Int) + 1) = ((i + 1 : Nat) : Int) := by unfold maxLen at hn; unfold wrap64; omega
theorem mSucc {i n : Nat} (h : i < n) : n - (intOf (.int .i64 ((i + 1 : Nat) : Int))).toNat < n - (intOf (.int .i64 (i : Int))).toNat := by show n - ((i + 1 : Nat) : Int).toNat < n - (i : Int).toNat; omega
instance {α : Type} : Inhabited (SlV α) := ⟨⟨none, 0, 0, []⟩⟩
/-- a set's cells -/
def RSt : Rep (Int × SlV Nat) := ⟨51, 2, by decide, fun x => [.int .i64 x.1, .slice x.2.a x.2.n x.2.c], fun _ => rfl, fun _ => rfl⟩
def SlV.v {α : Type} (s : SlV α) : Value := .slice s.a s.n s.c
/-- data of a set -/
def DOk (w : World) (s : SlV Nat) : Prop := SlOk RB (fun _ b => b < 256) w s
def StOk (w : World) (x : Int × SlV Nat) : Prop := (-9223372036854775808 ≤ x.1 ∧ x.1 ≤ 9223372036854775807) ∧ DOk w x.2
def StsOk (w : World) (s : SlV (Int × SlV Nat)) : Prop := SlOk RSt StOk w s
theorem SlOk.keepW {α : Type} [Inhabited α] {R : Rep α} {ok : World → α → Prop} {w w' : World} {s : SlV α} (h : SlOk R ok w s) (hb : Below w.heap.size w w') (hk : ∀ x, ok w x → ok w' x) : SlOk R ok w' s := ⟨h.sl.keep hb, h.nil, h.nc, h.cm, fun x hx => hk x (h.all x hx)⟩
theorem DOk.keep {w w' : World} {s : SlV Nat} (h : DOk w s) (hb : Below w.heap.size w w') : DOk w' s := SlOk.keepW h hb (fun _ h => h)
theorem StOk.keep {w w' : World} {x : Int × SlV Nat} (h : StOk w x) (hb : Below w.heap.size w w') : StOk w' x := ⟨h.1, h.2.keep hb⟩
theorem StsOk.keep {w w' : World} {s : SlV (Int × SlV Nat)} (h : StsOk w s) (hb : Below w.heap.size w w') : StsOk w' s := SlOk.keepW h hb (fun _ h => h.keep hb)
/-- a packet -/
structure Pk where
  tm : Int
  sq : Int
  dm : Int
  ss : SlV (Int × SlV Nat)
def Pk.v (p : Pk) : Value := .agg #[.int .i64 p.tm, .int .i64 p.sq, .int .i64 p.dm, .slice p.ss.a p.ss.n p.ss.c]
def oddI (id : Int) (n : Nat) : Bool := !(decide (id = 2) || (decide (256 ≤ id) && decide (id ≤ 65535))) || !(decide ((1 : Int) ≤ n) && decide ((n : Int) ≤ 65000))
def sz (n : Nat) : List (Int × SlV Nat) → Nat
  | [] => n
  | s :: r => if oddI s.1 s.2.n = true ∨ 65535 < n then 65536 else sz (n + 4 + s.2.n) r
theorem sz_cons (n : Nat) (s : Int × SlV Nat) (r : List (Int × SlV Nat)) : sz n (s :: r) = if oddI s.1 s.2.n = true ∨ 65535 < n then 65536 else sz (n + 4 + s.2.n) r := rfl
def m32 (n : Int) : Bool := decide (0 ≤ n) && decide (n ≤ 4294967295)
def okP (p : Pk) : Bool := m32 p.tm && m32 p.sq && m32 p.dm && decide (sz 16 p.ss.l ≤ 65535)

set_option maxRecDepth 100000 in
theorem odd_any (id : Int) (oa : Option Addr) (n c : Nat) (w : World) : Calls Try.prog 48 #[.agg #[.int .i64 id, .slice oa n c]] w fun e w' => e = .returned (.bool (oddI id n)) ∧ Below w.heap.size w w' := by
  have hal := (Below.refl w.heap.size w).alloc (Nat.le_refl _) (.cells #[.int .i64 id, .slice oa n c] 51)
  have HA := Lib.hid hal
  clear hal
  go_enter Try.func48, Try.ntmps48
  by_cases h2 : id = 2
  · subst h2
    go_wp2_with fail
    refine (within_any _ _ _ _).mono ?_
    rintro e w1 ⟨rfl, hw⟩
    have HW := Lib.hid hw
    clear hw
    go_wp2_with fail
    go_ret
    refine ⟨?_, HW.out ▸ HA.out⟩
    simp [oddI]
  · go_wp2_with fail
    refine (within_any _ _ _ _).mono ?_
    rintro e w1 ⟨rfl, rfl⟩
    cases hc : (decide (256 ≤ id) && decide (id ≤ 65535)) with
    | false =>
      go_wp2_with fail
      go_ret
      exact ⟨by simp only [oddI, hc, h2]; rfl, HA.out⟩
    | true =>
      go_wp2_with fail
      refine (within_any _ _ _ _).mono ?_
      rintro e w1 ⟨rfl, hw⟩
      have HW := Lib.hid hw
      clear hw
      go_wp2_with fail
      go_ret
      refine ⟨?_, HW.out ▸ HA.out⟩
      simp only [oddI, hc, h2]; simp
set_option maxRecDepth 100000 in
set_option maxHeartbeats 400000 in
theorem size_any (tm sq dm : Int) (s : SlV (Int × SlV Nat)) (w : World) (hs : StsOk w s) (hn : ∀ x ∈ s.l, x.2.n ≤ 1000000000) : Calls Try.prog 27 #[.agg #[.int .i64 tm, .int .i64 sq, .int .i64 dm, .slice s.a s.n s.c]] w fun e w' => e = .returned (.int .i64 (sz 16 s.l : Nat)) ∧ Below w.heap.size w w' := by
  have hal := (Below.refl w.heap.size w).alloc (Nat.le_refl _) (.cells #[.int .i64 tm, .int .i64 sq, .int .i64 dm, .slice s.a s.n s.c] 24)
  have hlen := hs.sl.len.symm
  have HA := Lib.hid (And.intro hal (And.intro hs hn))
  clear hal hs hn
  obtain ⟨oa, n, c, l⟩ := s
  dsimp only at *
  go_enter Try.func27, Try.ntmps27
  go_wp2_with fail
  go_loopw [3, 5, 9] (fun sv _ iv wr => ∃ (i k : Nat), i ≤ n ∧ iv = .int .i64 i ∧ sv = .int .i64 (k : Nat) ∧ k ≤ 65535 + 1000000004 ∧ sz 16 l = sz k (l.drop i) ∧ Below w.heap.size w wr) (fun _ _ iv _ => n - (intOf iv).toNat)
  case atStart => exact ⟨0, 16, Nat.zero_le _, rfl, rfl, by omega, by rw [List.drop_zero], HA.out.1⟩
  case round =>
    obtain ⟨i, k, hi, rfl, rfl, hk, hsz, hb⟩ := hrel
    obtain ⟨w2, rfl⟩ : ∃ w2 : World, w2 = wr := ⟨_, rfl⟩
    by_cases hlt : i < n
    · obtain ⟨bb, oo, rfl, hbb, hat⟩ := (HA.out.2.1.sl.keep hb).at hlt
      have c0 := hat 0 (by decide)
      have c1 := hat 1 (by decide)
      simp only [RSt, Nat.add_zero, List.getElem?_cons_zero, List.getElem?_cons_succ] at c0 c1
      have hil : ((i : Int) < (n : Int)) = True := by simp; omega
      have hd : l.drop i = l.getD i default :: l.drop (i + 1) := by rw [List.drop_eq_getElem_cons (by omega)]; simp [List.getD_eq_getElem?_getD, show i < l.length by omega]
      have hx : (l.getD i default).2.n ≤ 1000000000 := HA.out.2.2 _ (by rw [List.getD_eq_getElem?_getD, List.getElem?_eq_getElem (by omega)]; simp)
      rw [hd] at hsz
      generalize l.getD i default = x at *
      rw [sz_cons] at hsz
      have HB := Lib.hid (And.intro hb hsz)
      clear hb hsz hat
      go_wp2_with fail
      refine (odd_any _ _ _ _ _).mono ?_
      rintro e w3 ⟨rfl, hb3⟩
      have HC := Lib.hid (alc HB.out.1 (Nat.le_refl _) hb3)
      have c5 := cell_of (o := 1) (blk_alc hb3) rfl
      clear hb3
      cases ho : oddI x.1 x.2.n with
      | true =>
        go_wp2_with fail
        go_ret
        exact ⟨by rw [HB.out.2, if_pos (.inl ho)]; rfl, HC.out⟩
      | false =>
        by_cases hk2 : 65535 < k
        · have hkk : ((65535 : Int) < (k : Int)) = True := by simp; omega
          go_wp2_with fail
          go_ret
          exact ⟨by rw [HB.out.2, if_pos (.inr hk2)]; rfl, HC.out⟩
        · have hkk : ((65535 : Int) < (k : Int)) = False := by simp; omega
          have hw1 : IntKind.i64.wrap ((4 : Int) + (x.2.n : Int)) = 4 + x.2.n := IntWalk.i64_in _ (by omega)
          have hw2 : IntKind.i64.wrap ((k : Int) + (4 + (x.2.n : Int))) = ((k + 4 + x.2.n : Nat) : Int) := by rw [IntWalk.i64_in _ (by omega)]; omega
          have hw3 := wrapS hlt HA.out.2.1.sl.max
          go_wp2_with fail
          exact ⟨⟨i + 1, k + 4 + x.2.n, hlt, by rw [hw3], rfl, by omega, by rw [HB.out.2, if_neg (by rw [ho]; rintro (h | h); cases h; omega)], HC.out⟩, by rw [hw3]; exact mSucc hlt⟩
    · obtain rfl : n = i := by omega
      have hil : ((n : Int) < (n : Int)) = False := by simp
      have HB := Lib.hid (And.intro hb hsz)
      clear hb hsz
      go_wp2_with fail
      go_ret
      refine ⟨?_, HB.out.1⟩
      rw [HB.out.2, List.drop_eq_nil_of_le (by omega)]; rfl
set_option maxRecDepth 100000 in
set_option maxHeartbeats 400000 in
theorem check_any (p : Pk) (w : World) (hs : StsOk w p.ss) (hn : ∀ x ∈ p.ss.l, x.2.n ≤ 1000000000) : Calls Try.prog 10 #[p.v] w fun e w' => e = .returned (.int .i64 (if okP p then 0 else 310)) ∧ Below w.heap.size w w' := by
  unfold Pk.v
  have hal := (Below.refl w.heap.size w).alloc (Nat.le_refl _) (.cells #[.int .i64 p.tm, .int .i64 p.sq, .int .i64 p.dm, .slice p.ss.a p.ss.n p.ss.c] 24)
  have HA := Lib.hid (And.intro hal (And.intro hs hn))
  clear hal hs hn
  generalize hR : (if okP p then (0 : Int) else 310) = R
  have HR := Lib.hid hR
  clear hR
  obtain ⟨tm, sq, dm, s⟩ := p
  dsimp only at *
  go_enter Try.func10, Try.ntmps10
  go_wp2_with fail
  have h24 := hold (o := .cells #[.int .i64 tm, .int .i64 sq, .int .i64 dm] 3) (hnew w (.cells #[.int .i64 tm, .int .i64 sq, .int .i64 dm, .slice s.a s.n s.c] 24))
  have h3 := hnewAt (w := w.alloc (.cells #[.int .i64 tm, .int .i64 sq, .int .i64 dm, .slice s.a s.n s.c] 24)) (o := .cells #[.int .i64 tm, .int .i64 sq, .int .i64 dm] 3) (n := w.heap.size + 1) (Array.size_push _).symm
  have hb1 := HA.out.1.alloc HA.out.1.size (.cells #[.int .i64 tm, .int .i64 sq, .int .i64 dm] 3)
  generalize (w.alloc (.cells #[.int .i64 tm, .int .i64 sq, .int .i64 dm, .slice s.a s.n s.c] 24)).alloc (.cells #[.int .i64 tm, .int .i64 sq, .int .i64 dm] 3) = W at *
  have c0 := cell_of (o := 0) h3 rfl
  have c1 := cell_of (o := 1) h3 rfl
  have c2 := cell_of (o := 2) h3 rfl
  have HS := Lib.hid (And.intro h24 (And.intro hb1 (And.intro (HA.out.2.1.keep hb1) HA.out.2.2)))
  clear h24 h3 hb1 HA
  go_loopw [4, 13] (fun _ iv wr => ∃ i : Nat, i ≤ 3 ∧ iv = .int .i64 i ∧ (0 < i → m32 tm = true) ∧ (1 < i → m32 sq = true) ∧ (2 < i → m32 dm = true) ∧ wr = W) (fun _ iv _ => 3 - (intOf iv).toNat)
  case atStart => exact ⟨0, Nat.zero_le _, rfl, by omega, by omega, by omega, rfl⟩
  case round =>
    obtain ⟨i, hi, rfl, r0, r1, r2, rfl⟩ := hrel
    have hi4 : i = 0 ∨ i = 1 ∨ i = 2 ∨ i = 3 := by omega
    rcases hi4 with rfl | rfl | rfl | rfl
    · go_wp2_with fail
      refine (within_any _ _ _ _).mono ?_
      rintro e w3 ⟨rfl, hw⟩
      subst hw
      cases hc : (decide (0 ≤ tm) && decide (tm ≤ 4294967295)) with
      | false =>
        have hc2 : m32 tm = false := hc
        have HC := Lib.hid hc2
        clear hc2
        go_wp2_with fail
        go_ret
        exact ⟨by rw [← HR.out]; simp [okP, HC.out], HS.out.2.1⟩
      | true =>
        have hc2 : m32 tm = true := hc
        have HC := Lib.hid (And.intro hc2 (And.intro r0 (And.intro r1 r2)))
        clear hc2 r0 r1 r2
        go_wp2_with fail
        exact ⟨⟨1, by omega, rfl, fun _ => HC.out.1, fun h => absurd h (by omega), fun h => absurd h (by omega), trivial⟩, by decide⟩
    · go_wp2_with fail
      refine (within_any _ _ _ _).mono ?_
      rintro e w3 ⟨rfl, hw⟩
      subst hw
      cases hc : (decide (0 ≤ sq) && decide (sq ≤ 4294967295)) with
      | false =>
        have hc2 : m32 sq = false := hc
        have HC := Lib.hid hc2
        clear hc2
        go_wp2_with fail
        go_ret
        exact ⟨by rw [← HR.out]; simp [okP, HC.out], HS.out.2.1⟩
      | true =>
        have hc2 : m32 sq = true := hc
        have HC := Lib.hid (And.intro hc2 (And.intro r0 (And.intro r1 r2)))
        clear hc2 r0 r1 r2
        go_wp2_with fail
        exact ⟨⟨2, by omega, rfl, fun _ => HC.out.2.1 (by omega), fun _ => HC.out.1, fun h => absurd h (by omega), trivial⟩, by decide⟩
    · go_wp2_with fail
      refine (within_any _ _ _ _).mono ?_
      rintro e w3 ⟨rfl, hw⟩
      subst hw
      cases hc : (decide (0 ≤ dm) && decide (dm ≤ 4294967295)) with
      | false =>
        have hc2 : m32 dm = false := hc
        have HC := Lib.hid hc2
        clear hc2
        go_wp2_with fail
        go_ret
        exact ⟨by rw [← HR.out]; simp [okP, HC.out], HS.out.2.1⟩
      | true =>
        have hc2 : m32 dm = true := hc
        have HC := Lib.hid (And.intro hc2 (And.intro r0 (And.intro r1 r2)))
        clear hc2 r0 r1 r2
        go_wp2_with fail
        exact ⟨⟨3, by omega, rfl, fun _ => HC.out.2.1 (by omega), fun _ => HC.out.2.2.1 (by omega), fun _ => HC.out.1, trivial⟩, by decide⟩
    · have HC := Lib.hid (And.intro (r0 (by omega)) (And.intro (r1 (by omega)) (r2 (by omega))))
      clear r0 r1 r2
      have d0 := cell_of (o := 0) HS.out.1 rfl
      have d1 := cell_of (o := 1) HS.out.1 rfl
      have d2 := cell_of (o := 2) HS.out.1 rfl
      have d3 := cell_of (o := 3) HS.out.1 rfl
      go_wp2_with fail
      refine (size_any _ _ _ _ _ HS.out.2.2.1 HS.out.2.2.2).mono ?_
      rintro e w3 ⟨rfl, hb3⟩
      have HT := Lib.hid (bcall HS.out.2.1 (Nat.le_refl _) hb3)
      clear hb3
      by_cases hz : sz 16 s.l ≤ 65535
      · have hzz : ((65535 : Int) < (sz 16 s.l : Nat)) = False := by simp; omega
        have HZ := Lib.hid hz
        go_wp2_with fail
        go_ret
        exact ⟨by rw [← HR.out]; simp [okP, HC.out, hz], HT.out⟩
      · have hzz : ((65535 : Int) < (sz 16 s.l : Nat)) = True := by simp; omega
        go_wp2_with fail
        go_ret
        exact ⟨by rw [← HR.out]; simp [okP, hz], HT.out⟩
end Go.Proofs.Ytjjhnnnpikfjpaa
