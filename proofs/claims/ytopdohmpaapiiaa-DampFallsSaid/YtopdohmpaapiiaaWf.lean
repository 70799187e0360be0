/- Sweep. -/
import Derived.Test.YtopdohmpaapiiaaWe
namespace Go.Proofs.Ytopdohmpaapiiaa
open Go.RowKit
open Go.ChangeMaps (setBlock)

theorem But.alloc {w w' : World} {bs : List Nat} (h : But w w' bs) (o : Obj) : But w (w'.alloc o) bs := h.trans (But.of_below ((Below.refl _ _).alloc (Nat.le_refl _) _) bs)
theorem But.drew {w w' : World} {bs : List Nat} (h : But w w' bs) : But w w'.drew bs := ⟨h.os, h.tape, h.output, h.size, h.block⟩
theorem But.drewN {w w' : World} {bs : List Nat} (h : But w w' bs) (n : Nat) : But w (w'.drewN n) bs := ⟨h.os, h.tape, h.output, h.size, h.block⟩
theorem But.setBlock {w w' : World} {bs : List Nat} (h : But w w' bs) {b : Nat} (hb : w.heap.size ≤ b ∨ b ∈ bs) (o : Obj) : But w (Go.ChangeMaps.setBlock w' b o) bs :=
  ⟨h.os, h.tape, h.output, by simp [Go.ChangeMaps.setBlock]; exact h.size, fun k hk hn => by
    simp only [Go.ChangeMaps.setBlock, Array.getElem?_setIfInBounds]
    rw [if_neg (by rintro rfl; rcases hb with hb | hb; omega; exact hn hb)]
    exact h.block k hk hn⟩
theorem But.setCell {w w' : World} {bs : List Nat} (h : But w w' bs) {a : Addr} (hb : w.heap.size ≤ a.block ∨ a.block ∈ bs) (v : Value) : But w (w'.setCell a v) bs :=
  ⟨h.os, h.tape, h.output, by simp [World.setCell]; exact h.size, fun k hk hn => by
    rw [Below.heap_setCell _ _ _ _ (by rintro rfl; rcases hb with hb | hb; omega; exact hn hb)]
    exact h.block k hk hn⟩

theorem But.mono {w w' : World} {bs cs : List Nat} (h : But w w' bs) (hb : ∀ b ∈ bs, b ∈ cs) : But w w' cs := ⟨h.os, h.tape, h.output, h.size, fun k hk hn => h.block k hk (fun hm => hn (hb k hm))⟩
theorem run_range46 (w : World) (bm clock : Nat) (es : Array MapEntry) (h : w.heap[bm]? = some (.map es clock)) : (Instr.range 46 (.map (some bm))).run Try.prog w = .ok (.pointer (some ⟨w.heap.size, 0, none⟩)) (w.alloc (.mapIter (some bm) clock #[] clock)) :=
  run_range_map w 46 36 49 bm es clock Try.underlying46 h
theorem run_next_over (w : World) (ty r bm since clock c0 : Nat) (seen : Array Nat) (hr : w.heap[r]? = some (.mapIter (some bm) since seen c0)) (h : w.heap[bm]? = some (.map #[] clock)) :
    (Instr.next (.pointer (some ⟨r, 0, none⟩)) false ty).run Try.prog w = .ok (.tuple #[.bool false]) w := by
  simp [Instr.next, getObj, Sem.run, hr, h, Result.andThen, choose, Question.forced]
theorem run_next_one (w : World) (ty r bm clock : Nat) (e : MapEntry) (he : e.born < clock) (hr : w.heap[r]? = some (.mapIter (some bm) clock #[] clock)) (h : w.heap[bm]? = some (.map #[e] clock)) :
    (Instr.next (.pointer (some ⟨r, 0, none⟩)) false ty).run Try.prog w = .ok (.tuple #[.bool true, e.key, e.val]) (setBlock w r (.mapIter (some bm) clock #[e.born] clock)) := by
  have h2 : ¬ (clock ≤ e.born) := by omega
  simp [Instr.next, getObj, setObj, Sem.run, hr, h, Result.andThen, choose, Question.forced, he, setBlock, h2]
theorem run_entry_one (w : World) (r bm since clock : Nat) (e : MapEntry) (hr : w.heap[r]? = some (.mapIter (some bm) since #[e.born] clock)) (h : w.heap[bm]? = some (.map #[e] clock)) :
    (Instr.entry (.pointer (some ⟨r, 0, none⟩))).run Try.prog w = .ok (.tuple #[e.key, e.val]) w := by
  simp [Instr.entry, getObj, Sem.run, hr, h, Result.andThen]

theorem sweep_nil (now : Int) (w : World) : Calls Try.prog 13 #[.pointer none, .int .i64 now] w fun e w' => e = .returned (.int .i64 0) ∧ Below w.heap.size w w' := by
  go_enter Try.func13, Try.ntmps13
  go_wp2_with (go_at_call 16; refine (made_nil _).mono ?_; rintro e w' ⟨rfl, rfl⟩)
  go_ret
  exact ⟨rfl, Below.refl _ _⟩

theorem sweep_E (d bm clock : Nat) (s : Sett) (now : Int) (w : World) (h : DampE w d bm clock s) : Calls Try.prog 13 #[.pointer (some ⟨d, 0, none⟩), .int .i64 now] w fun e w' => e = .returned (.int .i64 0) ∧ Below w.heap.size w w' := by
  have c5 : w.cell? ⟨d, 5, none⟩ = some (.map (some bm)) := cell_of h.blk rfl
  have hr := run_range46 w bm clock #[] h.map.blk
  have hn := fun ty => run_next_over (w.alloc (.mapIter (some bm) clock #[] clock)) ty w.heap.size bm clock clock clock #[] (hnew _ _) (hold h.map.blk)
  have HH := Lib.hid h
  clear h
  go_enter Try.func13, Try.ntmps13
  go_wp2_with (go_at_call 16; refine (made_yes d bm s _ HH.out.blk).mono ?_; rintro e w' ⟨rfl, rfl⟩)
  refine wp_loop_rounds 1 ?_
  rw [rounds_succ]
  go_wp2_with fail
  go_ret
  exact ⟨rfl, (Below.refl _ _).alloc (Nat.le_refl _) _⟩

theorem sweep_goes (d bm bp clock born : Nat) (s : Sett) (hs : s.ok) (k : Key) (hk : k.wf) (p : Pen) (now : Int) (w : World) (h : Damp1 w d bm bp clock born s k p) (h0 : (p.at s (near now)).1 ≤ 0) (h1 : (p.at s (near now)).2.2 = false) :
    Calls Try.prog 13 #[.pointer (some ⟨d, 0, none⟩), .int .i64 now] w fun e w' => e = .returned (.int .i64 1) ∧ DampE w' d bm clock s ∧ But w w' [bm, bp] := by
  have hne := h.ne
  have hnm := h.nem
  have ld := lt_of_blk h.blk
  have lm := lt_of_blk h.map.blk
  have lp := lt_of_blk h.pen
  have hbn : born < clock := h.map.born (k, .pointer (some ⟨bp, 0, none⟩), born) (by simp)
  have c5 : w.cell? ⟨d, 5, none⟩ = some (.map (some bm)) := cell_of h.blk rfl
  have hr := run_range46 w bm clock _ h.map.blk
  have hn := fun ty => run_next_one (w.alloc (.mapIter (some bm) clock #[] clock)) ty w.heap.size bm clock ⟨k.val, .pointer (some ⟨bp, 0, none⟩), born⟩ hbn (hnew _ _) (hold h.map.blk)
  have Hi : (setBlock (w.alloc (.mapIter (some bm) clock #[] clock)) w.heap.size (.mapIter (some bm) clock #[born] clock)).heap[w.heap.size]? = some (.mapIter (some bm) clock #[born] clock) := MR.setBlock_heap _ _ _ (by simp)
  have Hb : But w (setBlock (w.alloc (.mapIter (some bm) clock #[] clock)) w.heap.size (.mapIter (some bm) clock #[born] clock)) [] := ((But.refl w []).alloc _).setBlock (.inl (Nat.le_refl _)) _
  have hen := run_entry_one _ w.heap.size bm clock clock ⟨k.val, .pointer (some ⟨bp, 0, none⟩), born⟩ Hi ((Hb.block bm lm (by simp)).trans h.map.blk)
  have Hsz : (setBlock (w.alloc (.mapIter (some bm) clock #[] clock)) w.heap.size (.mapIter (some bm) clock #[born] clock)).heap.size = w.heap.size + 1 := by simp [setBlock]
  have HH := Lib.hid h
  have HI := Lib.hid Hi
  have HB := Lib.hid Hb
  have HS := Lib.hid hs
  have HG := Lib.hid (And.intro h0 h1)
  obtain ⟨_, _, _, _, _, _, _, _, s9, s10⟩ := hs
  have hn0 := h.n0
  have hn1 := h.n1
  have ha0 := h.a0
  have ha1 := h.a1
  clear h Hi Hb h0 h1
  simp only [Key.val] at hn hen
  go_enter Try.func13, Try.ntmps13
  go_wp2_with (go_at_call 16; refine (made_yes d bm s _ HH.out.blk).mono ?_; rintro e w' ⟨rfl, rfl⟩)
  refine wp_loop_rounds 2 ?_
  rw [rounds_succ]
  go_wp2_with fail
  refine (near_any _ _).mono ?_
  rintro e w' ⟨rfl, rfl⟩
  go_wp2_with fail
  refine (settle_any d bp _ _ _ _ _ _ _ _ _ _ _ (((HB.out.alloc _).block d ld (by simp)).trans HH.out.blk) (((HB.out.alloc _).block bp lp (by simp)).trans HH.out.pen) hne s9 s10 hn0 hn1 ha0 ha1 (by omega) (by omega)).mono ?_
  rintro e w3 ⟨rfl, hS⟩
  have K3 := (hS.upd.other (k := w.heap.size + 1) (by omega)).trans (hnewAt (by rw [Hsz]))
  have k0 : w3.cell? ⟨w.heap.size + 1, 0, none⟩ = some (.int .i64 k.r) := cell_of K3 rfl
  have k1 : w3.cell? ⟨w.heap.size + 1, 1, none⟩ = some (.int .u32 k.a) := cell_of K3 rfl
  have k2 : w3.cell? ⟨w.heap.size + 1, 2, none⟩ = some (.int .i64 k.l) := cell_of K3 rfl
  have k3 : w3.cell? ⟨w.heap.size + 1, 3, none⟩ = some (.int .i64 k.i) := cell_of K3 rfl
  have B3 : But w w3 [bp] := (((HB.out.alloc _).trans (bs := []) (But.refl _ _)).mono (by simp)).trans (But.of_set hS.upd (by simp))
  have P3 := hS.upd.at (b := bp) (by simp; omega)
  have I3 := (hS.upd.other (k := w.heap.size) (by omega)).trans (hold HI.out)
  have HS3 := Lib.hid (And.intro hS (And.intro B3 (And.intro P3 I3)))
  clear hS B3 P3 I3 K3
  go_wp2_with fail
  obtain ⟨hS, B3, P3, I3⟩ := HS3.out
  refine (forget_goes d bm bp clock s _ k _ _ ((B3.block d ld (by simpa using hne)).trans HH.out.blk) P3 (HH.out.map.blk_iff KN (B3.block bm lm (by simpa using hnm.1))) hk HG.out.1 HG.out.2).mono ?_
  rintro e w4 ⟨rfl, hb4, hm4, ho4⟩
  have hdl : MR.del [(k, (Value.pointer (some ⟨bp, 0, none⟩)), born)] k = [] := by simp [MR.del]
  rw [hdl] at hm4
  have hn2 := fun ty => run_next_over w4 ty w.heap.size bm clock clock clock #[born] ((ho4 _ (by have := B3.size; have := hS.upd.size; simp at this; omega) (by omega)).trans I3) hm4.blk
  have B4 : But w w4 [bm, bp] := (B3.mono (by simp)).trans ⟨hb4.os, hb4.tape, hb4.output, hb4.size, fun j hj hnj => ho4 j hj (by simp at hnj; exact hnj.1)⟩
  have HF := Lib.hid (And.intro hm4 B4)
  clear hb4 hm4 ho4 B4 hS B3 P3 I3 hdl
  go_wp2_with fail
  rw [rounds_succ]
  go_wp2_with fail
  go_ret
  obtain ⟨hm4, B4⟩ := HF.out
  exact ⟨rfl, ⟨(B4.block d ld (by simp [hnm.2, hne])).trans HH.out.blk, hm4⟩, B4⟩
end Go.Proofs.Ytopdohmpaapiiaa
