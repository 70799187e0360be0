/- What lives asks, answered. -/
import Derived.Test.YtgainkgbodmciaaXar
import Derived.Test.YtgainkgbodmciaaXap
import Derived.Deep.Quiet
namespace Go.Proofs.Ytgainkgbodmciaa
open Go.RowKit

def FT : Int → Int → Option If := (hdOf twoL).F
def GT : Int → Option Cy := CGet (hdOf twoL) fun _ => none
def r1 (p s : Option Addr) : Rt := mkR p s 1 167772161 100
def r2 (p s : Option Addr) : Rt := mkR p s 2 184549377 90
def r3 (p s : Option Addr) : Rt := mkR p s 3 167772162 95
def r4 (p s : Option Addr) : Rt := mkR p s 4 201326592 99
def r2' (p s : Option Addr) (d : Nat) : Rt := { r2 p s with ca := some ⟨d, 0, none⟩, cn := 1, cc := 1, comms := [5] }
theorem op1 (p s : Option Addr) : optI FT (r1 p s) = 1 := by kernel_rfl
theorem op2 (p s : Option Addr) : optI FT (r2 p s) = 2 := by kernel_rfl
theorem op3 (p s : Option Addr) : optI FT (r3 p s) = 1 := by kernel_rfl
theorem op4 (p s : Option Addr) : optI FT (r4 p s) = -1 := by kernel_rfl
theorem op2' (p s : Option Addr) (d : Nat) : optI FT (r2' p s d) = 2 := by kernel_rfl
theorem best4 (p1 s1 p2 s2 p3 s3 p4 s4 : Option Addr) : bestN [r1 p1 s1, r2 p2 s2, r3 p3 s3, r4 p4 s4] = 0 := by kernel_rfl
theorem rank4 (p1 s1 p2 s2 p3 s3 p4 s4 : Option Addr) : rankOf [r1 p1 s1, r2 p2 s2, r3 p3 s3, r4 p4 s4] = [r1 p1 s1, r4 p4 s4, r3 p3 s3, r2 p2 s2] := by kernel_rfl
theorem rank4' (p1 s1 p2 s2 p3 s3 p4 s4 : Option Addr) (d : Nat) : rankOf [r1 p1 s1, r2' p2 s2 d, r3 p3 s3, r4 p4 s4] = [r1 p1 s1, r4 p4 s4, r3 p3 s3, r2' p2 s2 d] := by kernel_rfl
theorem det4 (p1 s1 p2 s2 p3 s3 p4 s4 : Option Addr) : detOf 2 [] FT GT [r1 p1 s1, r2 p2 s2, r3 p3 s3, r4 p4 s4] = [(r2 p2 s2, 2)] := by
  unfold detOf
  rw [rank4]
  unfold dets
  simp only [List.map_cons, List.map_nil, op1, op2, op3, op4]
  kernel_rfl
theorem det4' (p1 s1 p2 s2 p3 s3 p4 s4 : Option Addr) (d : Nat) : detOf 2 [5] FT GT [r1 p1 s1, r2' p2 s2 d, r3 p3 s3, r4 p4 s4] = [] := by
  unfold detOf
  rw [rank4']
  unfold dets
  simp only [List.map_cons, List.map_nil, op1, op2', op3, op4]
  kernel_rfl
theorem al1 (p s : Option Addr) : allowB 2 [5] GT (r1 p s, optI FT (r1 p s)) (r1 p s, optI FT (r1 p s)) = false := by rw [op1]; kernel_rfl
theorem al2 (p1 s1 p2 s2 : Option Addr) (d : Nat) : allowB 2 [5] (fun _ => none) (r2' p2 s2 d, optI (fun _ _ => none) (r2' p2 s2 d)) (r1 p1 s1, optI (fun _ _ => none) (r1 p1 s1)) = false := by kernel_rfl
theorem small4' (p s : Option Addr) (d : Nat) : Small (r2' p s d) := ⟨by show 1 ≤ 20; omega, by show 1 ≤ 100; omega, fun q hq => by obtain rfl := List.mem_singleton.1 hq; show 1 ≤ 200; omega⟩
theorem ins4 {W : World} {B : Nat} {p1 s1 p2 s2 p3 s3 p4 s4 : Option Addr} (hB : B ≤ W.heap.size) (h1 : RtOk W B (r1 p1 s1)) (h2 : RtOk W B (r2 p2 s2)) (h3 : RtOk W B (r3 p3 s3)) (h4 : RtOk W B (r4 p4 s4)) : Ins W B [r1 p1 s1, r2 p2 s2, r3 p3 s3, r4 p4 s4] := by
  refine ⟨hB, fun x hx => ?_, by show 4 ≤ 60; omega⟩
  simp only [List.mem_cons, List.mem_nil_iff, or_false] at hx
  rcases hx with rfl | rfl | rfl | rfl
  · exact ⟨h1, mkR_small _ _ _ _ _⟩
  · exact ⟨h2, mkR_small _ _ _ _ _⟩
  · exact ⟨h3, mkR_small _ _ _ _ _⟩
  · exact ⟨h4, mkR_small _ _ _ _ _⟩
theorem ins4' {W : World} {B : Nat} {p1 s1 p2 s2 p3 s3 p4 s4 : Option Addr} {d : Nat} (hB : B ≤ W.heap.size) (h1 : RtOk W B (r1 p1 s1)) (h2 : RtOk W B (r2' p2 s2 d)) (h3 : RtOk W B (r3 p3 s3)) (h4 : RtOk W B (r4 p4 s4)) : Ins W B [r1 p1 s1, r2' p2 s2 d, r3 p3 s3, r4 p4 s4] := by
  refine ⟨hB, fun x hx => ?_, by show 4 ≤ 60; omega⟩
  simp only [List.mem_cons, List.mem_nil_iff, or_false] at hx
  rcases hx with rfl | rfl | rfl | rfl
  · exact ⟨h1, mkR_small _ _ _ _ _⟩
  · exact ⟨h2, small4' _ _ _⟩
  · exact ⟨h3, mkR_small _ _ _ _ _⟩
  · exact ⟨h4, mkR_small _ _ _ _ _⟩
theorem CfA.deny {C : Array Value} {lg : Int} {im : Nat} {da : Option Addr} {dn dc : Nat} (H : CfA C lg im da dn dc) (b : Addr) : CfA (C.setIfInBounds 17 (.slice (some b) 1 1)) lg im (some b) 1 1 := by
  have hs := H.size
  obtain ⟨ia, ic, h7⟩ := H.c7
  refine ⟨by rw [Array.size_setIfInBounds]; exact hs, ⟨ia, ic, ?_⟩, ?_, ?_, ?_, H.im, by unfold maxLen; omega⟩
  · rw [Array.getElem?_setIfInBounds, if_neg (by omega)]; exact h7
  · rw [Array.getElem?_setIfInBounds, if_neg (by omega)]; exact H.c16
  · rw [Array.getElem?_setIfInBounds, if_pos rfl, if_pos (by omega)]
  · refine all_get fun j v hv => ?_
    rw [Array.getElem?_setIfInBounds] at hv
    by_cases e : 17 = j
    · rw [if_pos e] at hv
      by_cases e2 : 17 < C.size
      · rw [if_pos e2] at hv; injection hv with hv; subst hv; rfl
      · omega
    · rw [if_neg e] at hv
      exact get_all H.one hv
theorem ints5 {w : World} {b : Nat} {B : Nat} {T : TypeId} (h : w.heap[b]? = some (.cells #[.int .i64 5] T (0, 0))) (hB : b < B) : IntsAt w B (some ⟨b, 0, none⟩) 1 [5] :=
  ⟨rfl, by unfold maxLen; omega, fun _ => ⟨b, 0, rfl, hB, fun i hi => by
    obtain rfl : i = 0 := by omega
    exact cell_of h rfl⟩⟩
theorem RtOk.with5 {w : World} {B : Nat} {p s : Option Addr} {d : Nat} (h : RtOk w B (r2 p s)) (hc : IntsAt w B (some ⟨d, 0, none⟩) 1 [5]) : RtOk w B (r2' p s d) := ⟨h.path, hc, h.pf1, h.fr⟩
theorem nx4 {p1 s1 p2 s2 p3 s3 p4 s4 : Option Addr} : NxOk [r1 p1 s1, r2 p2 s2, r3 p3 s3, r4 p4 s4] := by
  intro x hx
  simp only [List.mem_cons, List.mem_nil_iff, or_false] at hx
  rcases hx with rfl | rfl | rfl | rfl <;> exact ⟨of_decide_eq_true rfl, of_decide_eq_true rfl⟩
theorem nx4' {p1 s1 p2 s2 p3 s3 p4 s4 : Option Addr} {d : Nat} : NxOk [r1 p1 s1, r2' p2 s2 d, r3 p3 s3, r4 p4 s4] := by
  intro x hx
  simp only [List.mem_cons, List.mem_nil_iff, or_false] at hx
  rcases hx with rfl | rfl | rfl | rfl <;> exact ⟨of_decide_eq_true rfl, of_decide_eq_true rfl⟩
theorem ok4 {p1 s1 p2 s2 p3 s3 p4 s4 : Option Addr} : ∀ x ∈ [r1 p1 s1, r2 p2 s2, r3 p3 s3, r4 p4 s4], IN.ok (optI FT x) := by
  intro x hx
  simp only [List.mem_cons, List.mem_nil_iff, or_false] at hx
  rcases hx with rfl | rfl | rfl | rfl
  · rw [op1]; exact wfI (by decide)
  · rw [op2]; exact wfI (by decide)
  · rw [op3]; exact wfI (by decide)
  · rw [op4]; exact wfI (by decide)
theorem ok4' {p1 s1 p2 s2 p3 s3 p4 s4 : Option Addr} {d : Nat} : ∀ x ∈ [r1 p1 s1, r2' p2 s2 d, r3 p3 s3, r4 p4 s4], IN.ok (optI FT x) := by
  intro x hx
  simp only [List.mem_cons, List.mem_nil_iff, or_false] at hx
  rcases hx with rfl | rfl | rfl | rfl
  · rw [op1]; exact wfI (by decide)
  · rw [op2']; exact wfI (by decide)
  · rw [op3]; exact wfI (by decide)
  · rw [op4]; exact wfI (by decide)
end Go.Proofs.Ytgainkgbodmciaa
/- Quiet steps of a drawn region: a guard that holds; a struct loaded whole; a call. -/
namespace Go.Proofs.Ytgainkgbodmciaa
open Go Go.RowKit

section
variable {P : Program} {ops : Array Oper} {C : World → Prop} {Q : Act → Prop} {K : Act → Prop} {a : Act} {o : Oper} {rest : List Oper}
theorem wpQuiet_yes (h : ∀ K : Act → Prop, (∀ a, wpQuiet P ops C Q rest a → K a) → o.quiet P a C K) (hw : Region.wanted o (yielded ops a.tmps) = true) : wpQuiet P ops C Q (o :: rest) a := by
  unfold wpQuiet
  rw [if_pos hw]
  exact h _ fun _ h => h
theorem quiet_value (v : Value) (h : ∀ w, C w → (execOp a.eval o).run P w = .ok (.value v) w) (hK : K (a.put o.dst v)) : o.quiet P a C K :=
  ⟨v, fun w hw => by unfold Oper.quietAt; rw [h w hw]; exact ⟨rfl, rfl⟩, hK⟩
theorem exec_load_mid {w : World} (ty : TypeId) (x : Operand) (ho : o.op = .load ty x) (b off : Nat) (cells : Array Value) (hx : a.eval x = .pointer (some ⟨b, off, none⟩))
    (hb : w.rangeAt b off cells.toList) {d : TypeDesc} (hu : P.underlying ty = some d) (hd : d.isRow = true) (hi : (P.info? ty).map (·.size) = some cells.size) : (execOp a.eval o).run P w = .ok (.value (.agg cells)) w := by
  have hr := run_loadVar_mid (P := P) w b off ty cells.toList d hb hu hd (by simpa using hi)
  have hl : (Instr.loadAt ty (.pointer (some ⟨b, off, none⟩))).run P w = .ok (.agg cells) w := by
    simp only [Instr.loadAt, Instr.sureAddr, Sem.run_bind, Sem.run_pure, Result.andThen_ok]
    simpa using hr
  unfold execOp
  simp only [ho, hx, Sem.run_bind, hl, Sem.run_pure, Result.andThen_ok]
theorem quiet_load (ty : TypeId) (x : Operand) (ho : o.op = .load ty x) (b off : Nat) (cells : Array Value) (hx : a.eval x = .pointer (some ⟨b, off, none⟩))
    (hb : ∀ w, C w → w.rangeAt b off cells.toList) {d : TypeDesc} (hu : P.underlying ty = some d) (hd : d.isRow = true) (hi : (P.info? ty).map (·.size) = some cells.size) (hK : K (a.put o.dst (.agg cells))) : o.quiet P a C K :=
  quiet_value _ (fun _ hw => exec_load_mid ty x ho b off cells hx (hb _ hw) hu hd hi) hK
theorem rangeAt_block {w : World} {b : Nat} {cells : Array Value} {T : TypeId} {fr : Nat × Nat} (h : w.heap[b]? = some (.cells cells T fr)) (off : Nat) (l : List Value) (hl : (cells.toList.drop off).take l.length = l) : w.rangeAt b off l := by
  intro j v hv
  refine cell_of h ?_
  have hj : j < l.length := (List.getElem?_eq_some_iff.1 hv).1
  rw [← hl] at hv
  rw [List.getElem?_take, if_pos hj, List.getElem?_drop] at hv
  simpa using hv
end
end Go.Proofs.Ytgainkgbodmciaa
