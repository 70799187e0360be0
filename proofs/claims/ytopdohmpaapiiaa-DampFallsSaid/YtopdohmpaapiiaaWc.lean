/- Keys; the damp in memory; the walks of made, weight, forget, look. -/
import Derived.Test.YtopdohmpaapiiaaWb
import Derived.Test.YtopdohmpaapiiaaMap
import Derived.DeepKeys4
namespace Go.Proofs.Ytopdohmpaapiiaa
open Go.RowKit
open Go.ChangeMaps (setBlock)

theorem laidOut : laidOutB Try.prog = true := by kernel_rfl
theorem row36 : (36 : TypeId) < Try.prog.types.size := of_decide_eq_true (by kernel_rfl)
theorem wide36 : (match Try.prog.underlying 36 with | some (.array _ _) | some (.struct _) => true | _ => false) = true := by kernel_rfl
theorem law36 : WideMaps.KeyLaw Try.prog 36 := deep_law_laid laidOut (m := 3) (by omega) row36 (by kernel_rfl) wide36
theorem key36 : Try.prog.keyType 36 = true := by kernel_rfl
theorem size75 : Try.prog.types.size + 1 = 73 + 1 + 1 + 1 := by kernel_rfl

structure Key where
  r : Int
  a : Int
  l : Int
  i : Int
  deriving DecidableEq
def Key.val (k : Key) : Value := .agg #[.int .i64 k.r, .int .u32 k.a, .int .i64 k.l, .int .i64 k.i]
def Key.wf (k : Key) : Prop := (Lit.int .i64 k.r).wf = true ∧ (Lit.int .u32 k.a).wf = true ∧ (Lit.int .i64 k.l).wf = true ∧ (Lit.int .i64 k.i).wf = true
theorem cells36 : Try.prog.cellsOf 36 = 4 := by kernel_rfl
theorem cells34 : Try.prog.cellsOf 34 = 2 := by kernel_rfl
theorem cells3 : Try.prog.cellsOf 3 = 1 := by kernel_rfl
theorem cells32 : Try.prog.cellsOf 32 = 1 := by kernel_rfl

theorem Key.reads (k : Key) (h : k.wf) : ∃ l, keyOf Try.prog 36 k.val = some l := by
  obtain ⟨h1, h2, h3, h4⟩ := h
  have hf : (Key.val k).formed Try.prog 36 = true := by simp [Value.formed, Try.underlying36, Key.val, cells36]
  have i1 : ∀ d n, (Lit.int .i64 n).wf = true → Try.prog.keyLits (d + 1) 3 [.int .i64 n] = some [.int .i64 n] := by
    intro d n h; simp [Program.keyLits, Try.underlying3, h]
  have i2 : ∀ d n, (Lit.int .u32 n).wf = true → Try.prog.keyLits (d + 1) 32 [.int .u32 n] = some [.int .u32 n] := by
    intro d n h; simp [Program.keyLits, Try.underlying32, h]
  have i3 : ∀ d, Try.prog.keyLits (d + 1 + 1) 34 [.int .u32 k.a, .int .i64 k.l] = some [.int .u32 k.a, .int .i64 k.l] := by
    intro d; unfold Program.keyLits; simp [Try.underlying34, cells34, cells3, cells32, i1 d _ h3, i2 d _ h2]
  have i4 : ∀ d, Try.prog.keyLits (d + 1 + 1 + 1) 36 [.int .i64 k.r, .int .u32 k.a, .int .i64 k.l, .int .i64 k.i] = some [.int .i64 k.r, .int .u32 k.a, .int .i64 k.l, .int .i64 k.i] := by
    intro d; unfold Program.keyLits; simp [Try.underlying36, cells36, cells34, cells3, i1 (d + 1) _ h1, i1 (d + 1) _ h4, i3 d]
  unfold keyOf
  simp only [Try.underlying36]
  rw [key36, hf, size75]
  have := i4 73
  simp only [Key.val, Value.cells, this]
  exact ⟨_, rfl⟩

def KN : MR.Enc Try.prog 36 Key where
  enc := Key.val
  ok := Key.wf
  law := Maps.Keyed.of_law law36
  reads := Key.reads
  inj a b h := by
    cases a; cases b
    simp [Key.val] at h
    simp [h]

theorem zero49 (w : World) : (zeroValue 49).run Try.prog w = .ok (.pointer none) w := by kernel_rfl

/-- settings -/
structure Sett where
  g : Int
  o : Int
  hi : Int
  lo : Int
  e : Int
def Sett.obj (s : Sett) (bm : Nat) : Obj := .cells #[.int .i64 s.g, .int .i64 s.o, .int .i64 s.hi, .int .i64 s.lo, .int .i64 s.e, .map (some bm)] 48 (0, 0)
abbrev Pen := Int × Int × Bool

theorem made_yes (d bm : Nat) (s : Sett) (w : World) (hd : w.heap[d]? = some (s.obj bm)) : Calls Try.prog 16 #[.pointer (some ⟨d, 0, none⟩)] w fun e w' => e = .returned (.bool true) ∧ w = w' := by
  have c5 : w.cell? ⟨d, 5, none⟩ = some (.map (some bm)) := cell_of hd rfl
  clear hd
  have hnn := fun w => run_neq_map_nil (P := Try.prog) w 46 36 49 (some bm) Try.underlying46
  go_enter Try.func16, Try.ntmps16
  go_wp2
  go_ret
  exact ⟨rfl, rfl⟩
theorem made_nil (w : World) : Calls Try.prog 16 #[.pointer none] w fun e w' => e = .returned (.bool false) ∧ w = w' := by
  go_enter Try.func16, Try.ntmps16
  go_wp2
  go_ret
  exact ⟨rfl, rfl⟩
def weigh (s : Sett) (deed : Int) : Int := if deed = 2 then s.o else if deed = 3 then s.g else 0
theorem weight_any (d bm : Nat) (s : Sett) (deed : Int) (w : World) (hd : w.heap[d]? = some (s.obj bm)) : Calls Try.prog 20 #[.pointer (some ⟨d, 0, none⟩), .int .i64 deed] w fun e w' => e = .returned (.int .i64 (weigh s deed)) ∧ w = w' := by
  have c0 : w.cell? ⟨d, 0, none⟩ = some (.int .i64 s.g) := cell_of hd rfl
  have c1 : w.cell? ⟨d, 1, none⟩ = some (.int .i64 s.o) := cell_of hd rfl
  clear hd
  by_cases h2 : deed = 2
  · subst h2
    go_enter Try.func20, Try.ntmps20
    go_wp2
    go_ret
    exact ⟨rfl, rfl⟩
  · by_cases h3 : deed = 3
    · subst h3
      go_enter Try.func20, Try.ntmps20
      go_wp2
      go_ret
      exact ⟨rfl, rfl⟩
    · have h2' : (deed == 2) = false := by simpa using h2
      have h3' : (deed == 3) = false := by simpa using h3
      have hw : Hid (weigh s deed = 0) := show weigh s deed = 0 by unfold weigh; rw [if_neg h2, if_neg h3]
      go_enter Try.func20, Try.ntmps20
      go_wp2
      go_ret
      exact ⟨ret_int hw.out.symm, rfl⟩

theorem heap_ad1 {w : World} {b : Nat} (h : b < w.heap.size) (o : Obj) : ((w.alloc o).drew).heap[b]? = w.heap[b]? := Below.heap_alloc w o b h
theorem heap_ad {w : World} {b : Nat} (h : b < w.heap.size) (o : Obj) (n : Nat) : ((w.alloc o).drewN n).heap[b]? = w.heap[b]? := Below.heap_alloc w o b h

/-- forget: it stays -/
theorem forget_stays (d bm bp : Nat) (s : Sett) (p : Pen) (k : Key) (w : World) (hd : w.heap[d]? = some (s.obj bm)) (hp : w.heap[bp]? = some (penObj p)) (h : 0 < p.1 ∨ p.2.2 = true) :
    Calls Try.prog 21 #[.pointer (some ⟨d, 0, none⟩), k.val, .pointer (some ⟨bp, 0, none⟩)] w fun e w' => e = .returned (.bool false) ∧ Below w.heap.size w w' := by
  obtain ⟨n, a, held⟩ := p
  have c0 : w.cell? ⟨bp, 0, none⟩ = some (.int .i64 n) := cell_of hp rfl
  have c2 : w.cell? ⟨bp, 2, none⟩ = some (.bool held) := cell_of hp rfl
  have lb := lt_of_blk hp
  clear hp hd
  unfold Key.val
  by_cases h0 : 0 < n
  · clear h
    go_enter Try.func21, Try.ntmps21
    go_wp2
    go_ret
    exact ⟨rfl, (Below.refl _ _).alloc (Nat.le_refl _) _⟩
  · obtain rfl : held = true := by rcases h with h | h; exact absurd h h0; exact h
    clear h
    have h0' : decide (0 < n) = false := by simpa using h0
    go_enter Try.func21, Try.ntmps21
    go_wp2
    go_ret
    exact ⟨rfl, (Below.refl _ _).alloc (Nat.le_refl _) _⟩

/-- forget: it goes -/
theorem forget_goes (d bm bp clock : Nat) (s : Sett) (p : Pen) (k : Key) (l : List (MR.Ent Key)) (w : World) (hd : w.heap[d]? = some (s.obj bm)) (hp : w.heap[bp]? = some (penObj p)) (hm : MR.MapAt KN w bm l clock) (hk : k.wf) (h0 : p.1 ≤ 0) (h1 : p.2.2 = false) :
    Calls Try.prog 21 #[.pointer (some ⟨d, 0, none⟩), k.val, .pointer (some ⟨bp, 0, none⟩)] w fun e w' => e = .returned (.bool true) ∧ Below bm w w' ∧ MR.MapAt KN w' bm (MR.del l k) clock ∧ ∀ b, b < w.heap.size → b ≠ bm → w'.heap[b]? = w.heap[b]? := by
  obtain ⟨n, a, held⟩ := p
  obtain rfl : held = false := h1
  have c0 : w.cell? ⟨bp, 0, none⟩ = some (.int .i64 n) := cell_of hp rfl
  have c2 : w.cell? ⟨bp, 2, none⟩ = some (.bool false) := cell_of hp rfl
  have c5 : w.cell? ⟨d, 5, none⟩ = some (.map (some bm)) := cell_of hd rfl
  have lb := lt_of_blk hp
  have ld := lt_of_blk hd
  have lm := lt_of_blk hm.blk
  have h0' : decide (0 < n) = false := by simpa using h0
  have hdel := fun (o : Obj) (ty : TypeId) => (MR.run_delete KN (hm.blk_iff KN (heap_ad1 lm o)) hk Try.underlying46 (K' := 36) ty).1
  have hmap := fun (o : Obj) => (MR.run_delete KN (hm.blk_iff KN (heap_ad1 lm o)) hk Try.underlying46 (K' := 36) 0).2
  have HM := Lib.hid hmap
  simp only [KN, Key.val] at hdel
  clear hp hd h0 hm hmap
  unfold Key.val
  go_enter Try.func21, Try.ntmps21
  go_wp2_with fail
  go_region
  go_wp2_with fail
  go_ret
  have h1 := HM.out (.cells #[.int .i64 k.r, .int .u32 k.a, .int .i64 k.l, .int .i64 k.i] 36)
  refine ⟨rfl, ?_, h1, ?_⟩
  · refine ⟨rfl, rfl, rfl, ?_, ?_⟩
    · simp [setBlock]
    · intro j hj
      simp only [setBlock, Array.getElem?_setIfInBounds]
      rw [if_neg (by omega)]
      exact heap_ad1 (by omega) _
  · intro j hj hne
    simp only [setBlock, Array.getElem?_setIfInBounds]
    rw [if_neg (Ne.symm hne)]
    exact heap_ad1 hj _

/-- Len -/
theorem len_any (d bm clock : Nat) (s : Sett) (l : List (MR.Ent Key)) (w : World) (hd : w.heap[d]? = some (s.obj bm)) (hm : MR.MapAt KN w bm l clock) :
    Calls Try.prog 14 #[.pointer (some ⟨d, 0, none⟩)] w fun e w' => e = .returned (.int .i64 l.length) ∧ w = w' := by
  have c5 : w.cell? ⟨d, 5, none⟩ = some (.map (some bm)) := cell_of hd rfl
  have hlen := fun ty => MR.run_len KN hm Try.underlying46 ty
  clear hd hm
  go_enter Try.func14, Try.ntmps14
  go_wp2
  go_ret
  exact ⟨rfl, rfl⟩
theorem len_nil (w : World) : Calls Try.prog 14 #[.pointer none] w fun e w' => e = .returned (.int .i64 0) ∧ w = w' := by
  go_enter Try.func14, Try.ntmps14
  go_wp2
  go_ret
  exact ⟨rfl, rfl⟩

theorem look_nil (k : Key) (now : Int) (w : World) : Calls Try.prog 22 #[.pointer none, k.val, .int .i64 now] w fun e w' => e = .returned (.pointer none) ∧ Below w.heap.size w w' := by
  unfold Key.val
  go_enter Try.func22, Try.ntmps22
  go_wp2_with fail
  go_quiet ((go_at_call 16; exact Calls.quiet_of_same ((made_nil _).mono fun _ _ h => ⟨h.1, h.2.symm⟩)))
  go_wp2_with fail
  go_ret
  exact ⟨rfl, bdn ((Below.refl _ _).alloc (Nat.le_refl _) _) _⟩

/-- look: the key is not counted -/
theorem look_none (d bm clock : Nat) (s : Sett) (k : Key) (hk : k.wf) (now : Int) (l : List (MR.Ent Key)) (w : World) (hd : w.heap[d]? = some (s.obj bm)) (hm : MR.MapAt KN w bm l clock) (hg : MR.get? l k = none) :
    Calls Try.prog 22 #[.pointer (some ⟨d, 0, none⟩), k.val, .int .i64 now] w fun e w' => e = .returned (.pointer none) ∧ Below w.heap.size w w' := by
  have lm := lt_of_blk hm.blk
  have ld := lt_of_blk hd
  have c5 : w.cell? ⟨d, 5, none⟩ = some (.map (some bm)) := cell_of hd rfl
  have hd1 := fun (o : Obj) (q : Nat) => (heap_ad ld o q).trans hd
  have HD := Lib.hid hd1
  have hlk := fun (o : Obj) (q : Nat) => MR.run_lookup KN (hm.blk_iff KN (heap_ad lm o q)) hk Try.underlying46 zero49 false
  rw [hg] at hlk
  simp only [KN, Key.val, Option.getD_none, Bool.false_eq_true, if_false] at hlk
  clear hd hm hg hd1
  unfold Key.val
  go_enter Try.func22, Try.ntmps22
  go_wp2_with fail
  go_quiet ((go_at_call 16; exact Calls.quiet_of_same ((made_yes d bm s _ (HD.out _ _)).mono fun _ _ h => ⟨h.1, h.2.symm⟩)))
  go_wp2_with fail
  go_ret
  exact ⟨rfl, bdn ((Below.refl _ _).alloc (Nat.le_refl _) _) _⟩
end Go.Proofs.Ytopdohmpaapiiaa
