/- One counted key: look, Penalty, Held. -/
import Derived.Test.YtopdohmpaapiiaaWd
namespace Go.Proofs.Ytopdohmpaapiiaa
open Go.RowKit
open Go.ChangeMaps (setBlock)

/-- w' is w with new blocks; of the old ones only those of bs may have turned -/
structure But (w w' : World) (bs : List Nat) : Prop where
  os : w'.os = w.os
  tape : w'.tape = w.tape
  output : w'.output = w.output
  size : w.heap.size ≤ w'.heap.size
  block : ∀ k, k < w.heap.size → k ∉ bs → w'.heap[k]? = w.heap[k]?
theorem But.of_below {w w' : World} (h : Below w.heap.size w w') (bs : List Nat) : But w w' bs := ⟨h.os, h.tape, h.output, h.size, fun k hk _ => h.block k hk⟩
theorem But.of_set {w w' : World} {b : Nat} {o : Obj} (h : SetB w w' b o) {bs : List Nat} (hb : b ∈ bs) : But w w' bs := ⟨h.os, h.tape, h.output, by rw [h.size]; exact Nat.le_refl _, fun k _ hk => h.other (fun e => hk (e ▸ hb))⟩
theorem But.trans {a b c : World} {bs : List Nat} (h : But a b bs) (k : But b c bs) : But a c bs :=
  ⟨k.os.trans h.os, k.tape.trans h.tape, k.output.trans h.output, Nat.le_trans h.size k.size, fun i hi hn => (k.block i (Nat.lt_of_lt_of_le hi h.size) hn).trans (h.block i hi hn)⟩
theorem But.refl (w : World) (bs : List Nat) : But w w bs := ⟨rfl, rfl, rfl, Nat.le_refl _, fun _ _ _ => rfl⟩
theorem But.below {w w' : World} {bs : List Nat} (h : But w w' bs) {B : Nat} (hB : B ≤ w.heap.size) (hbs : ∀ b ∈ bs, B ≤ b) : Below B w w' :=
  ⟨h.os, h.tape, h.output, h.size, fun k hk => h.block k (by omega) (fun hm => by have := hbs k hm; omega)⟩

/-- the damp d, that counts nothing -/
structure DampE (w : World) (d bm clock : Nat) (s : Sett) : Prop where
  blk : w.heap[d]? = some (s.obj bm)
  map : MR.MapAt KN w bm [] clock
/-- .. that counts one key -/
structure Damp1 (w : World) (d bm bp clock born : Nat) (s : Sett) (k : Key) (p : Pen) : Prop where
  blk : w.heap[d]? = some (s.obj bm)
  map : MR.MapAt KN w bm [(k, .pointer (some ⟨bp, 0, none⟩), born)] clock
  pen : w.heap[bp]? = some (penObj p)
  n0 : 0 ≤ p.1
  n1 : p.1 ≤ 1048576
  a0 : 0 ≤ p.2.1
  a1 : p.2.1 ≤ 1152921504606846976
theorem Damp1.ne {w : World} {d bm bp clock born : Nat} {s : Sett} {k : Key} {p : Pen} (h : Damp1 w d bm bp clock born s k p) : d ≠ bp := by
  rintro rfl
  have := h.blk.symm.trans h.pen
  simp [Sett.obj, penObj] at this
theorem Damp1.nem {w : World} {d bm bp clock born : Nat} {s : Sett} {k : Key} {p : Pen} (h : Damp1 w d bm bp clock born s k p) : bm ≠ bp ∧ d ≠ bm := by
  constructor
  · rintro rfl
    have := h.map.blk.symm.trans h.pen
    simp [penObj] at this
  · rintro rfl
    have := h.map.blk.symm.trans h.blk
    simp [Sett.obj] at this
theorem Damp1.mk' {w w' : World} {d bm bp clock born : Nat} {s : Sett} {k : Key} {p q : Pen} (h : Damp1 w d bm bp clock born s k p) (hb : But w w' [bp]) (hp : w'.heap[bp]? = some (penObj q))
    (n0 : 0 ≤ q.1) (n1 : q.1 ≤ 1048576) (a0 : 0 ≤ q.2.1) (a1 : q.2.1 ≤ 1152921504606846976) : Damp1 w' d bm bp clock born s k q :=
  ⟨(hb.block _ (lt_of_blk h.blk) (by simpa using h.ne)).trans h.blk, h.map.blk_iff KN (hb.block _ (lt_of_blk h.map.blk) (by simpa using h.nem.1)), hp, n0, n1, a0, a1⟩

/-- p at now -/
def Pen.at (s : Sett) (p : Pen) (now : Int) : Pen := settled s.lo s.e now p.1 p.2.1 p.2.2
def near (now : Int) : Int := min (max now 0) 9007199254740991

theorem look_some (d bm bp clock born : Nat) (s : Sett) (hs : s.ok) (k : Key) (hk : k.wf) (p : Pen) (now : Int) (w : World) (h : Damp1 w d bm bp clock born s k p) :
    Calls Try.prog 22 #[.pointer (some ⟨d, 0, none⟩), k.val, .int .i64 now] w fun e w' => e = .returned (.pointer (some ⟨bp, 0, none⟩)) ∧ Damp1 w' d bm bp clock born s k (p.at s (near now)) ∧ But w w' [bp] := by
  have lm := lt_of_blk h.map.blk
  have ld := lt_of_blk h.blk
  have lp := lt_of_blk h.pen
  have c5 : w.cell? ⟨d, 5, none⟩ = some (.map (some bm)) := cell_of h.blk rfl
  have HD := Lib.hid (fun (o : Obj) (q : Nat) => (heap_ad ld o q).trans h.blk)
  have HP := Lib.hid (fun (o : Obj) (q : Nat) => (heap_ad lp o q).trans h.pen)
  have hlk := fun (o : Obj) (q : Nat) => MR.run_lookup KN (h.map.blk_iff KN (heap_ad lm o q)) hk Try.underlying46 zero49 false
  have hg : MR.get? [(k, (Value.pointer (some ⟨bp, 0, none⟩)), born)] k = some (.pointer (some ⟨bp, 0, none⟩)) := by simp [MR.get?]
  rw [hg] at hlk
  simp only [KN, Key.val, Option.getD_some, Bool.false_eq_true, if_false] at hlk
  have HH := Lib.hid h
  have hne := h.ne
  obtain ⟨s1, s2, s3, s4, s5, s6, s7, s8, s9, s10⟩ := hs
  have hn0 := h.n0
  have hn1 := h.n1
  have ha0 := h.a0
  have ha1 := h.a1
  clear h hg
  unfold Key.val
  go_enter Try.func22, Try.ntmps22
  go_wp2_with fail
  go_quiet ((go_at_call 16; exact Calls.quiet_of_same ((made_yes d bm s _ (HD.out _ _)).mono fun _ _ h => ⟨h.1, h.2.symm⟩)))
  go_wp2_with fail
  go_quiet (fail)
  go_wp2_with fail
  refine (near_any _ _).mono ?_
  rintro e w' ⟨rfl, rfl⟩
  go_wp2_with fail
  refine (settle_any d bp _ _ _ _ _ _ _ _ _ _ _ (HD.out _ _) (HP.out _ _) hne s9 s10 hn0 hn1 ha0 ha1 (by omega) (by omega)).mono ?_
  rintro e w' ⟨rfl, hS⟩
  have HS := Lib.hid hS
  clear hS
  go_wp2_with fail
  go_ret
  have hS := HS.out
  have hb : But w w' [bp] := (But.of_below (bdn ((Below.refl _ _).alloc (Nat.le_refl _) _) _) [bp]).trans (But.of_set hS.upd (by simp))
  refine ⟨rfl, HH.out.mk' hb (hS.upd.at (by simp; omega)) hS.b0 hS.b1 hS.b2 hS.b3, hb⟩

theorem look_E (d bm clock : Nat) (s : Sett) (k : Key) (hk : k.wf) (now : Int) (w : World) (h : DampE w d bm clock s) :
    Calls Try.prog 22 #[.pointer (some ⟨d, 0, none⟩), k.val, .int .i64 now] w fun e w' => e = .returned (.pointer none) ∧ Below w.heap.size w w' :=
  look_none d bm clock s k hk now [] w h.blk h.map rfl

theorem penalty_nil  (k : Key) (now : Int) (w : World)  :
    Calls Try.prog 10 #[.pointer none, k.val, .int .i64 now] w fun e w' => e = .returned (.int .i64 0) ∧ Below w.heap.size w w' := by
  have HC := Lib.hid (fun (o : Obj) => look_nil k now (w.alloc o))
  unfold Key.val at *
  go_enter Try.func10, Try.ntmps10
  go_wp2_with fail
  refine (HC.out _).mono ?_
  rintro e w1 ⟨rfl, hb⟩
  go_wp2_with fail
  go_ret
  exact ⟨rfl, ((Below.refl _ _).alloc (Nat.le_refl _) _).trans (hb.mono (by simp))⟩
theorem penalty_E (d bm clock : Nat) (s : Sett) (k : Key) (now : Int) (w : World) (hk : k.wf) (h : DampE w d bm clock s) :
    Calls Try.prog 10 #[.pointer (some ⟨d, 0, none⟩), k.val, .int .i64 now] w fun e w' => e = .returned (.int .i64 0) ∧ Below w.heap.size w w' := by
  have h1 := fun o => DampE.mk (w := w.alloc o) (hold h.blk) (h.map.blk_iff KN (hold h.map.blk |>.trans h.map.blk.symm))
  have HH := Lib.hid h1
  clear h h1
  have HC := Lib.hid (fun (o : Obj) => look_E d bm clock s k hk now (w.alloc o) (HH.out o))
  unfold Key.val at *
  go_enter Try.func10, Try.ntmps10
  go_wp2_with fail
  refine (HC.out _).mono ?_
  rintro e w1 ⟨rfl, hb⟩
  go_wp2_with fail
  go_ret
  exact ⟨rfl, ((Below.refl _ _).alloc (Nat.le_refl _) _).trans (hb.mono (by simp))⟩
theorem penalty_some (d bm bp clock born : Nat) (s : Sett) (hs : s.ok) (k : Key) (hk : k.wf) (p : Pen) (now : Int) (w : World) (h : Damp1 w d bm bp clock born s k p) :
    Calls Try.prog 10 #[.pointer (some ⟨d, 0, none⟩), k.val, .int .i64 now] w fun e w' => e = .returned (.int .i64 (p.at s (near now)).1) ∧ Damp1 w' d bm bp clock born s k (p.at s (near now)) ∧ But w w' [bp] := by
  have lm := lt_of_blk h.map.blk
  have lp := lt_of_blk h.pen
  have h1 := fun (o : Obj) => h.mk' (w' := w.alloc o) (But.of_below ((Below.refl _ _).alloc (Nat.le_refl _) _) [bp]) (hold h.pen) h.n0 h.n1 h.a0 h.a1
  have HC := Lib.hid (fun (o : Obj) => look_some d bm bp clock born s hs k hk p now (w.alloc o) (h1 o))
  clear h h1
  unfold Key.val at *
  go_enter Try.func10, Try.ntmps10
  go_wp2_with fail
  refine (HC.out _).mono ?_
  rintro e w1 ⟨rfl, hd, hb⟩
  have c0 : w1.cell? ⟨bp, 0, none⟩ = some (.int .i64 (p.at s (near now)).1) := cell_of hd.pen rfl
  have HD := Lib.hid hd
  have HB := Lib.hid hb
  clear hd hb
  go_wp2_with fail
  go_ret
  exact ⟨rfl, HD.out, (But.of_below ((Below.refl _ _).alloc (Nat.le_refl _) _) [bp]).trans HB.out⟩
theorem held_nil  (k : Key) (now : Int) (w : World)  :
    Calls Try.prog 11 #[.pointer none, k.val, .int .i64 now] w fun e w' => e = .returned (.bool false) ∧ Below w.heap.size w w' := by
  have HC := Lib.hid (fun (o : Obj) => look_nil k now (w.alloc o))
  unfold Key.val at *
  go_enter Try.func11, Try.ntmps11
  go_wp2_with fail
  refine (HC.out _).mono ?_
  rintro e w1 ⟨rfl, hb⟩
  go_wp2_with fail
  go_ret
  exact ⟨rfl, ((Below.refl _ _).alloc (Nat.le_refl _) _).trans (hb.mono (by simp))⟩
theorem held_E (d bm clock : Nat) (s : Sett) (k : Key) (now : Int) (w : World) (hk : k.wf) (h : DampE w d bm clock s) :
    Calls Try.prog 11 #[.pointer (some ⟨d, 0, none⟩), k.val, .int .i64 now] w fun e w' => e = .returned (.bool false) ∧ Below w.heap.size w w' := by
  have h1 := fun o => DampE.mk (w := w.alloc o) (hold h.blk) (h.map.blk_iff KN (hold h.map.blk |>.trans h.map.blk.symm))
  have HH := Lib.hid h1
  clear h h1
  have HC := Lib.hid (fun (o : Obj) => look_E d bm clock s k hk now (w.alloc o) (HH.out o))
  unfold Key.val at *
  go_enter Try.func11, Try.ntmps11
  go_wp2_with fail
  refine (HC.out _).mono ?_
  rintro e w1 ⟨rfl, hb⟩
  go_wp2_with fail
  go_ret
  exact ⟨rfl, ((Below.refl _ _).alloc (Nat.le_refl _) _).trans (hb.mono (by simp))⟩
theorem held_some (d bm bp clock born : Nat) (s : Sett) (hs : s.ok) (k : Key) (hk : k.wf) (p : Pen) (now : Int) (w : World) (h : Damp1 w d bm bp clock born s k p) :
    Calls Try.prog 11 #[.pointer (some ⟨d, 0, none⟩), k.val, .int .i64 now] w fun e w' => e = .returned (.bool (p.at s (near now)).2.2) ∧ Damp1 w' d bm bp clock born s k (p.at s (near now)) ∧ But w w' [bp] := by
  have lm := lt_of_blk h.map.blk
  have lp := lt_of_blk h.pen
  have h1 := fun (o : Obj) => h.mk' (w' := w.alloc o) (But.of_below ((Below.refl _ _).alloc (Nat.le_refl _) _) [bp]) (hold h.pen) h.n0 h.n1 h.a0 h.a1
  have HC := Lib.hid (fun (o : Obj) => look_some d bm bp clock born s hs k hk p now (w.alloc o) (h1 o))
  clear h h1
  unfold Key.val at *
  go_enter Try.func11, Try.ntmps11
  go_wp2_with fail
  refine (HC.out _).mono ?_
  rintro e w1 ⟨rfl, hd, hb⟩
  have c0 : w1.cell? ⟨bp, 2, none⟩ = some (.bool (p.at s (near now)).2.2) := cell_of hd.pen rfl
  have HD := Lib.hid hd
  have HB := Lib.hid hb
  clear hd hb
  go_wp2_with fail
  go_ret
  exact ⟨rfl, HD.out, (But.of_below ((Below.refl _ _).alloc (Nat.le_refl _) _) [bp]).trans HB.out⟩
end Go.Proofs.Ytopdohmpaapiiaa
