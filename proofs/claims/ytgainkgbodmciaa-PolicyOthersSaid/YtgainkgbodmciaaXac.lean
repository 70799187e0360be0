/- Walks: lengths and first numbers of paths, preferences, meds. -/
import Derived.Test.YtgainkgbodmciaaXab
import Derived.Laws.OwnMore
namespace Go.Proofs.Ytgainkgbodmciaa
open Go.RowKit

theorem length_walk (o nx md pf : Int) (pa ca : Option Addr) (pn pc cn cc : Nat) (path : List SegV) (w : World) (B : Nat) (hB : B ≤ w.heap.size) (hx : PathAt w B pa pn path) (hpl : path.length ≤ 20) (hall : ∀ s ∈ path, s.ns.length ≤ 200) :
    Calls Try.prog 74 #[.agg #[.int .i64 o, .slice pa pn pc, .int .u32 nx, .int .i64 md, .int .i64 pf, .slice ca cn cc]] w fun e w' => e = .returned (.int .i64 (plen path)) ∧ Below w.heap.size w w' := by
  obtain ⟨hn, hm, hp, hseg⟩ := hx
  by_cases h0 : pn = 0
  · subst h0
    have hpath : path = [] := List.eq_nil_of_length_eq_zero hn.symm
    subst hpath
    clear hn hm hp hseg hpl hall hB
    go_enter Try.func74, Try.ntmps74
    go_wp2_with fail
    refine wp_loop_rounds 1 ?_
    rw [rounds_succ]
    go_wp2_with fail
    go_ret
    exact ⟨rfl, (Below.refl _ _).alloc (Nat.le_refl _) _⟩
  obtain ⟨b, off, rfl, hbB, hc⟩ := hp (by omega)
  have HX := Lib.hid (And.intro hc (And.intro hseg (And.intro hall hn)))
  have hle : pn ≤ 20 := by omega
  clear hp hseg hall hn hm hpl hc
  go_enter Try.func74, Try.ntmps74
  go_wp2_with fail
  go_loopw [3, 9] (fun n i wr => ∃ k : Nat, k ≤ pn ∧ i = .int .i64 k ∧ n = .int .i64 (plen (path.take k)) ∧ Below w.heap.size w wr ∧ True) (fun _ i _ => pn - (intOf i).toNat)
  case atStart => exact ⟨0, Nat.zero_le _, rfl, by simp [plen], (Below.refl _ _).alloc (Nat.le_refl _) _, trivial⟩
  case round =>
    obtain ⟨k, hk, rfl, rfl, hb, hbox⟩ := hrel
    obtain ⟨hc, hseg, hall, hn⟩ := HX.out
    by_cases hlt : k < pn
    · obtain ⟨c0, c1⟩ := hc k hlt
      have hkl : k < path.length := by omega
      have hmem : path.getD k default ∈ path := by rw [List.getD_eq_getElem?_getD, List.getElem?_eq_getElem hkl]; exact List.getElem_mem hkl
      have hsl := (hseg _ hmem).1
      have ht := plen_take path k hkl
      have h200 := hall _ hmem
      have hbd := plen_bd (path.take k) (fun s hs => hall s (List.mem_of_mem_take hs))
      have hlen : (path.take k).length ≤ 20 := by simp; omega
      generalize path.getD k default = s at *
      have c0' := (hb.cell (p := ⟨b, off + k * 2, none⟩) (by dsimp only; omega)).trans c0
      have c1' := (hb.cell (p := ⟨b, off + k * 2 + 1, none⟩) (by dsimp only; omega)).trans c1
      have hsn : s.sn ≤ 200 := by omega
      have hp0 := hbd.1
      have hp1 : plen (path.take k) ≤ 4000 := by have := hbd.2; omega
      have HT := Lib.hid (And.intro ht (And.intro hsl (And.intro hb hbox)))
      clear c0 c1 hc hseg ht hsl hn hb hall hmem hbd hlen hkl h200 hbox
      obtain ⟨sset, ssa, ssn, ssc, sns⟩ := s
      dsimp only at *
      cases hset : sset with
      | true =>
        subst hset
        go_wp2_with fail
        obtain ⟨ht, hsl, hb, hbox⟩ := HT.out
        go_roundw
        case rel => exact ⟨k + 1, by omega, by go_num, by rw [ht]; rfl, (hb.alloc (by have := hb.size; omega) _), trivial⟩
        case measure => simp [intOf]; omega
      | false =>
        subst hset
        go_wp2_with fail
        obtain ⟨ht, hsl, hb, hbox⟩ := HT.out
        go_roundw
        case rel => exact ⟨k + 1, by omega, by go_num, by rw [ht]; simp [slen, hsl], (hb.alloc (by have := hb.size; omega) _), trivial⟩
        case measure => simp [intOf]; omega
    · have hf : ¬ ((k : Int) < pn) := by omega
      have HB := Lib.hid (And.intro hb hn)
      clear hc hseg hall hn hb hbox
      go_wp2_with fail
      go_ret
      obtain ⟨hb, hn⟩ := HB.out
      exact ⟨ret_int (by rw [List.take_of_length_le (by omega)]), hb⟩

theorem rlength_walk (o nx md pf : Int) (pa ca : Option Addr) (pn pc cn cc : Nat) (path : List SegV) (w : World) (B : Nat) (hB : B ≤ w.heap.size) (hx : PathAt w B pa pn path) (hpl : path.length ≤ 20) (hall : ∀ s ∈ path, s.ns.length ≤ 200) :
    Calls Try.prog 81 #[.agg #[.int .i64 o, .slice pa pn pc, .int .u32 nx, .int .i64 md, .int .i64 pf, .slice ca cn cc]] w fun e w' => e = .returned (.int .i64 (plen path)) ∧ Below w.heap.size w w' := by
  obtain ⟨hn, hm, hp, hseg⟩ := hx
  by_cases h0 : pn = 0
  · subst h0
    have hpath : path = [] := List.eq_nil_of_length_eq_zero hn.symm
    subst hpath
    clear hn hm hp hseg hpl hall hB
    go_enter Try.func81, Try.ntmps81
    go_wp2_with fail
    refine wp_loop_rounds 1 ?_
    rw [rounds_succ]
    go_wp2_with fail
    go_ret
    exact ⟨rfl, (Below.refl _ _).alloc (Nat.le_refl _) _⟩
  obtain ⟨b, off, rfl, hbB, hc⟩ := hp (by omega)
  have HX := Lib.hid (And.intro hc (And.intro hseg (And.intro hall hn)))
  have hle : pn ≤ 20 := by omega
  clear hp hseg hall hn hm hpl hc
  go_enter Try.func81, Try.ntmps81
  go_wp2_with fail
  go_loopw [3, 4] (fun n i wr => ∃ k : Nat, k ≤ pn ∧ i = .int .i64 k ∧ n = .int .i64 (plen (path.take k)) ∧ Below w.heap.size w wr ∧ wr.heap[w.heap.size]? = some (.cells #[.int .i64 o, .slice (some ⟨b, off, none⟩) pn pc, .int .u32 nx, .int .i64 md, .int .i64 pf, .slice ca cn cc] 42 (0, 0))) (fun _ i _ => pn - (intOf i).toNat)
  case atStart => exact ⟨0, Nat.zero_le _, rfl, by simp [plen], (Below.refl _ _).alloc (Nat.le_refl _) _, hnew _ _⟩
  case round =>
    obtain ⟨k, hk, rfl, rfl, hb, hbox⟩ := hrel
    obtain ⟨hc, hseg, hall, hn⟩ := HX.out
    have bx1 : wr.cell? ⟨w.heap.size, 1, none⟩ = some (.slice (some ⟨b, off, none⟩) pn pc) := cell_of hbox rfl
    by_cases hlt : k < pn
    · obtain ⟨c0, c1⟩ := hc k hlt
      have hkl : k < path.length := by omega
      have hmem : path.getD k default ∈ path := by rw [List.getD_eq_getElem?_getD, List.getElem?_eq_getElem hkl]; exact List.getElem_mem hkl
      have hsl := (hseg _ hmem).1
      have ht := plen_take path k hkl
      have h200 := hall _ hmem
      have hbd := plen_bd (path.take k) (fun s hs => hall s (List.mem_of_mem_take hs))
      have hlen : (path.take k).length ≤ 20 := by simp; omega
      generalize path.getD k default = s at *
      have c0' := (hb.cell (p := ⟨b, off + k * 2, none⟩) (by dsimp only; omega)).trans c0
      have c1' := (hb.cell (p := ⟨b, off + k * 2 + 1, none⟩) (by dsimp only; omega)).trans c1
      have hsn : s.sn ≤ 200 := by omega
      have hp0 := hbd.1
      have hp1 : plen (path.take k) ≤ 4000 := by have := hbd.2; omega
      have HT := Lib.hid (And.intro ht (And.intro hsl (And.intro hb hbox)))
      clear c0 c1 hc hseg ht hsl hn hb hall hmem hbd hlen hkl h200 hbox
      obtain ⟨sset, ssa, ssn, ssc, sns⟩ := s
      dsimp only at *
      cases hset : sset with
      | true =>
        subst hset
        go_wp2_with fail
        obtain ⟨ht, hsl, hb, hbox⟩ := HT.out
        go_roundw
        case rel => exact ⟨k + 1, by omega, by go_num, by rw [ht]; rfl, hb, hbox⟩
        case measure => simp [intOf]; omega
      | false =>
        subst hset
        go_wp2_with fail
        obtain ⟨ht, hsl, hb, hbox⟩ := HT.out
        go_roundw
        case rel => exact ⟨k + 1, by omega, by go_num, by rw [ht]; simp [slen, hsl], hb, hbox⟩
        case measure => simp [intOf]; omega
    · have hf : ¬ ((k : Int) < pn) := by omega
      have HB := Lib.hid (And.intro hb hn)
      clear hc hseg hall hn hb hbox
      go_wp2_with fail
      go_ret
      obtain ⟨hb, hn⟩ := HB.out
      exact ⟨ret_int (by rw [List.take_of_length_le (by omega)]), hb⟩

theorem first_walk (o nx md pf : Int) (pa ca : Option Addr) (pn pc cn cc : Nat) (path : List SegV) (w : World) (B : Nat) (hB : B ≤ w.heap.size) (hx : PathAt w B pa pn path) :
    Calls Try.prog 90 #[.agg #[.int .i64 o, .slice pa pn pc, .int .u32 nx, .int .i64 md, .int .i64 pf, .slice ca cn cc]] w fun e w' => e = .returned (.int .i64 (pfirst path)) ∧ Below w.heap.size w w' := by
  obtain ⟨hn, hm, hp, hseg⟩ := hx
  by_cases h0 : pn = 0
  · subst h0
    have hpath : path = [] := List.eq_nil_of_length_eq_zero hn.symm
    subst hpath
    clear hn hm hp hseg hB
    go_enter Try.func90, Try.ntmps90
    go_wp2_with fail
    go_ret
    exact ⟨rfl, (Below.refl _ _).alloc (Nat.le_refl _) _⟩
  obtain ⟨b, off, rfl, hbB, hc⟩ := hp (by omega)
  obtain ⟨s, rest, rfl⟩ : ∃ s rest, path = s :: rest := by
    cases path with
    | nil => simp at hn; omega
    | cons s rest => exact ⟨s, rest, rfl⟩
  obtain ⟨c0, c1⟩ := hc 0 (by omega)
  simp only [Nat.zero_mul, Nat.add_zero, List.getD_cons_zero] at c0 c1
  have hs := hseg s (by simp)
  have hbs : b < w.heap.size := by omega
  have hne : ((pn : Int) == 0) = false := by simp; omega
  have hlt : (0 : Int) < (pn : Int) := by omega
  have hle : pn ≤ 9223372036854775807 := by unfold maxLen at hm; omega
  have e0 : ∀ o : Obj, (w.alloc o).cell? ⟨b, off, none⟩ = some (.bool s.set) := fun o => ((Below.refl _ _).alloc (Nat.le_refl _) o |>.cell (p := ⟨b, off, none⟩) hbs).trans c0
  have e1 : ∀ o : Obj, (w.alloc o).cell? ⟨b, off + 1, none⟩ = some (.slice s.sa s.sn s.sc) := fun o => ((Below.refl _ _).alloc (Nat.le_refl _) o |>.cell (p := ⟨b, off + 1, none⟩) hbs).trans c1
  clear hn hm hp hseg hc
  obtain ⟨sset, ssa, ssn, ssc, sns⟩ := s
  dsimp only at *
  cases sset with
  | true =>
    clear hs
    go_enter Try.func90, Try.ntmps90
    go_wp2_with fail
    go_ret
    exact ⟨rfl, (Below.refl _ _).alloc (Nat.le_refl _) _⟩
  | false =>
    obtain ⟨g1, g2, g3⟩ := hs
    by_cases h1 : ssn = 0
    · subst h1
      have hns : sns = [] := List.eq_nil_of_length_eq_zero g1.symm
      subst hns
      clear g1 g2 g3
      go_enter Try.func90, Try.ntmps90
      go_wp2_with fail
      go_ret
      exact ⟨rfl, (Below.refl _ _).alloc (Nat.le_refl _) _⟩
    · obtain ⟨b2, off2, rfl, hb2, hc2⟩ := g3 (by omega)
      obtain ⟨y, ys, rfl⟩ : ∃ y ys, sns = y :: ys := by
        cases sns with
        | nil => simp at g1; omega
        | cons y ys => exact ⟨y, ys, rfl⟩
      have d0 := hc2 0 (by omega)
      simp only [Nat.add_zero, List.getD_cons_zero] at d0
      have hbs2 : b2 < w.heap.size := by omega
      have hne2 : ((ssn : Int) == 0) = false := by simp; omega
      have hlt2 : (0 : Int) < (ssn : Int) := by omega
      have hle2 : ssn ≤ 9223372036854775807 := by unfold maxLen at g2; omega
      have f0 : ∀ o : Obj, (w.alloc o).cell? ⟨b2, off2, none⟩ = some (.int .i64 y) := fun o => ((Below.refl _ _).alloc (Nat.le_refl _) o |>.cell (p := ⟨b2, off2, none⟩) hbs2).trans d0
      clear g1 g2 g3 hc2
      go_enter Try.func90, Try.ntmps90
      go_wp2_with fail
      go_ret
      exact ⟨rfl, (Below.refl _ _).alloc (Nat.le_refl _) _⟩

theorem rfirst_walk (o nx md pf : Int) (pa ca : Option Addr) (pn pc cn cc : Nat) (path : List SegV) (w : World) (B : Nat) (hB : B ≤ w.heap.size) (hx : PathAt w B pa pn path) :
    Calls Try.prog 82 #[.agg #[.int .i64 o, .slice pa pn pc, .int .u32 nx, .int .i64 md, .int .i64 pf, .slice ca cn cc]] w fun e w' => e = .returned (.int .i64 (pfirst path)) ∧ Below w.heap.size w w' := by
  obtain ⟨hn, hm, hp, hseg⟩ := hx
  by_cases h0 : pn = 0
  · subst h0
    have hpath : path = [] := List.eq_nil_of_length_eq_zero hn.symm
    subst hpath
    clear hn hm hp hseg hB
    go_enter Try.func82, Try.ntmps82
    go_wp2_with fail
    go_ret
    exact ⟨rfl, (Below.refl _ _).alloc (Nat.le_refl _) _⟩
  obtain ⟨b, off, rfl, hbB, hc⟩ := hp (by omega)
  obtain ⟨s, rest, rfl⟩ : ∃ s rest, path = s :: rest := by
    cases path with
    | nil => simp at hn; omega
    | cons s rest => exact ⟨s, rest, rfl⟩
  obtain ⟨c0, c1⟩ := hc 0 (by omega)
  simp only [Nat.zero_mul, Nat.add_zero, List.getD_cons_zero] at c0 c1
  have hs := hseg s (by simp)
  have hbs : b < w.heap.size := by omega
  have hne : ((pn : Int) == 0) = false := by simp; omega
  have hlt : (0 : Int) < (pn : Int) := by omega
  have hle : pn ≤ 9223372036854775807 := by unfold maxLen at hm; omega
  have e0 : ∀ o : Obj, (w.alloc o).cell? ⟨b, off, none⟩ = some (.bool s.set) := fun o => ((Below.refl _ _).alloc (Nat.le_refl _) o |>.cell (p := ⟨b, off, none⟩) hbs).trans c0
  have e1 : ∀ o : Obj, (w.alloc o).cell? ⟨b, off + 1, none⟩ = some (.slice s.sa s.sn s.sc) := fun o => ((Below.refl _ _).alloc (Nat.le_refl _) o |>.cell (p := ⟨b, off + 1, none⟩) hbs).trans c1
  clear hn hm hp hseg hc
  obtain ⟨sset, ssa, ssn, ssc, sns⟩ := s
  dsimp only at *
  cases sset with
  | true =>
    clear hs
    go_enter Try.func82, Try.ntmps82
    go_wp2_with fail
    go_ret
    exact ⟨rfl, (Below.refl _ _).alloc (Nat.le_refl _) _⟩
  | false =>
    obtain ⟨g1, g2, g3⟩ := hs
    by_cases h1 : ssn = 0
    · subst h1
      have hns : sns = [] := List.eq_nil_of_length_eq_zero g1.symm
      subst hns
      clear g1 g2 g3
      go_enter Try.func82, Try.ntmps82
      go_wp2_with fail
      go_ret
      exact ⟨rfl, (Below.refl _ _).alloc (Nat.le_refl _) _⟩
    · obtain ⟨b2, off2, rfl, hb2, hc2⟩ := g3 (by omega)
      obtain ⟨y, ys, rfl⟩ : ∃ y ys, sns = y :: ys := by
        cases sns with
        | nil => simp at g1; omega
        | cons y ys => exact ⟨y, ys, rfl⟩
      have d0 := hc2 0 (by omega)
      simp only [Nat.add_zero, List.getD_cons_zero] at d0
      have hbs2 : b2 < w.heap.size := by omega
      have hne2 : ((ssn : Int) == 0) = false := by simp; omega
      have hlt2 : (0 : Int) < (ssn : Int) := by omega
      have hle2 : ssn ≤ 9223372036854775807 := by unfold maxLen at g2; omega
      have f0 : ∀ o : Obj, (w.alloc o).cell? ⟨b2, off2, none⟩ = some (.int .i64 y) := fun o => ((Below.refl _ _).alloc (Nat.le_refl _) o |>.cell (p := ⟨b2, off2, none⟩) hbs2).trans d0
      clear g1 g2 g3 hc2
      go_enter Try.func82, Try.ntmps82
      go_wp2_with fail
      go_ret
      exact ⟨rfl, (Below.refl _ _).alloc (Nat.le_refl _) _⟩

theorem pref_walk (o nx md pf : Int) (pa ca : Option Addr) (pn pc cn cc : Nat) (w : World) :
    Calls Try.prog 72 #[.agg #[.int .i64 o, .slice pa pn pc, .int .u32 nx, .int .i64 md, .int .i64 pf, .slice ca cn cc]] w fun e w' => e = .returned (.int .i64 (if pf < 0 then 100 else pf)) ∧ Below w.heap.size w w' := by
  by_cases h0 : pf < 0
  all_goals
    have H0 := Lib.hid h0
    go_enter Try.func72, Try.ntmps72
    go_wp2_with fail
    all_goals
      go_ret
      exact ⟨ret_int (by have := H0.out; first | (rw [if_pos (by omega)]) | (rw [if_neg (by omega)]) | omega), (Below.refl _ _).alloc (Nat.le_refl _) _⟩

theorem rpref_walk (o nx md pf : Int) (pa ca : Option Addr) (pn pc cn cc : Nat) (w : World) :
    Calls Try.prog 80 #[.agg #[.int .i64 o, .slice pa pn pc, .int .u32 nx, .int .i64 md, .int .i64 pf, .slice ca cn cc]] w fun e w' => e = .returned (.int .i64 (if pf < 0 then 100 else pf)) ∧ Below w.heap.size w w' := by
  by_cases h0 : pf < 0
  all_goals
    have H0 := Lib.hid h0
    go_enter Try.func80, Try.ntmps80
    go_wp2_with fail
    all_goals
      go_ret
      exact ⟨ret_int (by have := H0.out; first | (rw [if_pos (by omega)]) | (rw [if_neg (by omega)]) | omega), (Below.refl _ _).alloc (Nat.le_refl _) _⟩

theorem med_walk (o nx md pf : Int) (pa ca : Option Addr) (pn pc cn cc : Nat) (w : World) :
    Calls Try.prog 91 #[.agg #[.int .i64 o, .slice pa pn pc, .int .u32 nx, .int .i64 md, .int .i64 pf, .slice ca cn cc]] w fun e w' => e = .returned (.int .i64 (max md 0)) ∧ Below w.heap.size w w' := by
  by_cases h0 : md < 0
  all_goals
    have H0 := Lib.hid h0
    go_enter Try.func91, Try.ntmps91
    go_wp2_with fail
    all_goals
      go_ret
      exact ⟨ret_int (by have := H0.out; first | (rw [if_pos (by omega)]) | (rw [if_neg (by omega)]) | omega), (Below.refl _ _).alloc (Nat.le_refl _) _⟩

theorem rmed_walk (o nx md pf : Int) (pa ca : Option Addr) (pn pc cn cc : Nat) (w : World) :
    Calls Try.prog 83 #[.agg #[.int .i64 o, .slice pa pn pc, .int .u32 nx, .int .i64 md, .int .i64 pf, .slice ca cn cc]] w fun e w' => e = .returned (.int .i64 (max md 0)) ∧ Below w.heap.size w w' := by
  by_cases h0 : md < 0
  all_goals
    have H0 := Lib.hid h0
    go_enter Try.func83, Try.ntmps83
    go_wp2_with fail
    all_goals
      go_ret
      exact ⟨ret_int (by have := H0.out; first | (rw [if_pos (by omega)]) | (rw [if_neg (by omega)]) | omega), (Below.refl _ _).alloc (Nat.le_refl _) _⟩
end Go.Proofs.Ytgainkgbodmciaa
/- Walks: what the criteria look at, as closures over candidates. -/
namespace Go.Proofs.Ytgainkgbodmciaa
open Go.RowKit

def Rt.cand (x : Rt) (n : Int) : Value := .agg #[.int .i64 x.r, .int .u32 x.a, .int .i64 x.l, .int .i64 x.i, .int .i64 x.o, .slice x.pa x.pn x.pc, .int .u32 x.nx, .int .i64 x.md, .int .i64 x.pf, .slice x.ca x.cn x.cc, .int .i64 n]
theorem length_any (x : Rt) (w : World) (B : Nat) (hB : B ≤ w.heap.size) (hx : RtOk w B x) (hs : Small x) : Calls Try.prog 74 #[x.attrs] w fun e w' => e = .returned (.int .i64 (plen x.path)) ∧ Below w.heap.size w w' := length_walk _ _ _ _ _ _ _ _ _ _ _ w B hB hx.path hs.1 hs.2.2
theorem rlength_any (x : Rt) (w : World) (B : Nat) (hB : B ≤ w.heap.size) (hx : RtOk w B x) (hs : Small x) : Calls Try.prog 81 #[x.attrs] w fun e w' => e = .returned (.int .i64 (plen x.path)) ∧ Below w.heap.size w w' := rlength_walk _ _ _ _ _ _ _ _ _ _ _ w B hB hx.path hs.1 hs.2.2
theorem first_any (x : Rt) (w : World) (B : Nat) (hB : B ≤ w.heap.size) (hx : RtOk w B x) : Calls Try.prog 90 #[x.attrs] w fun e w' => e = .returned (.int .i64 (pfirst x.path)) ∧ Below w.heap.size w w' := first_walk _ _ _ _ _ _ _ _ _ _ _ w B hB hx.path
theorem rfirst_any (x : Rt) (w : World) (B : Nat) (hB : B ≤ w.heap.size) (hx : RtOk w B x) : Calls Try.prog 82 #[x.attrs] w fun e w' => e = .returned (.int .i64 (pfirst x.path)) ∧ Below w.heap.size w w' := rfirst_walk _ _ _ _ _ _ _ _ _ _ _ w B hB hx.path
theorem pref_any (x : Rt) (w : World) : Calls Try.prog 72 #[x.attrs] w fun e w' => e = .returned (.int .i64 (prefOf x)) ∧ Below w.heap.size w w' := pref_walk _ _ _ _ _ _ _ _ _ _ w
theorem rpref_any (x : Rt) (w : World) : Calls Try.prog 80 #[x.attrs] w fun e w' => e = .returned (.int .i64 (prefOf x)) ∧ Below w.heap.size w w' := rpref_walk _ _ _ _ _ _ _ _ _ _ w
theorem med_any (x : Rt) (w : World) : Calls Try.prog 91 #[x.attrs] w fun e w' => e = .returned (.int .i64 (medOf x)) ∧ Below w.heap.size w w' := med_walk _ _ _ _ _ _ _ _ _ _ w
theorem rmed_any (x : Rt) (w : World) : Calls Try.prog 83 #[x.attrs] w fun e w' => e = .returned (.int .i64 (medOf x)) ∧ Below w.heap.size w w' := rmed_walk _ _ _ _ _ _ _ _ _ _ w

theorem rtOk_alloc {w : World} {B : Nat} {x : Rt} (h : RtOk w B x) (hB : B ≤ w.heap.size) (o : Obj) : RtOk (w.alloc o) B x := h.below ((Below.refl B w).alloc hB o)

def f31 (x : Rt) : Int := -prefOf x
theorem of31 (x : Rt) (n : Int) (w : World) (B : Nat) (_hB : B ≤ w.heap.size) (hx : RtOk w B x) (_hs : Small x) : Calls Try.prog 71 #[x.cand n] w fun e w' => e = .returned (.int .i64 (f31 x)) ∧ Below w.heap.size w w' := by
  have hp : prefOf x ≤ 9223372036854775807 ∧ 0 ≤ prefOf x := by have := hx.pf1; unfold prefOf; split <;> omega
  obtain ⟨hp1, hp2⟩ := hp
  have HC := Lib.hid (fun w => pref_any x w)
  clear hx _hs
  unfold Rt.cand Rt.attrs at *
  go_enter Try.func71, Try.ntmps71
  go_wp2_with fail
  refine (HC.out _).mono ?_
  rintro e w1 ⟨rfl, hb⟩
  go_wp2_with fail
  go_ret
  exact ⟨ret_int (by unfold f31; first | rfl | omega), ((Below.refl _ _).alloc (Nat.le_refl _) _).trans (hb.mono (by simp))⟩

def f32 (x : Rt) : Int := plen x.path
theorem of32 (x : Rt) (n : Int) (w : World) (B : Nat) (hB : B ≤ w.heap.size) (hx : RtOk w B x) (hs : Small x) : Calls Try.prog 73 #[x.cand n] w fun e w' => e = .returned (.int .i64 (f32 x)) ∧ Below w.heap.size w w' := by
  have HC := Lib.hid (fun o => length_any x (w.alloc o) B (by simp; omega) (rtOk_alloc hx hB o) hs)
  clear hx hs
  unfold Rt.cand Rt.attrs at *
  go_enter Try.func73, Try.ntmps73
  go_wp2_with fail
  refine (HC.out _).mono ?_
  rintro e w1 ⟨rfl, hb⟩
  go_wp2_with fail
  go_ret
  exact ⟨rfl, ((Below.refl _ _).alloc (Nat.le_refl _) _).trans (hb.mono (by simp))⟩

def f34 (x : Rt) : Int := x.o
theorem of34 (x : Rt) (n : Int) (w : World) (B : Nat) (_hB : B ≤ w.heap.size) (_hx : RtOk w B x) (_hs : Small x) : Calls Try.prog 75 #[x.cand n] w fun e w' => e = .returned (.int .i64 (f34 x)) ∧ Below w.heap.size w w' := by
  clear _hx _hs
  unfold Rt.cand
  go_enter Try.func75, Try.ntmps75
  go_wp2_with fail
  go_ret
  exact ⟨rfl, (Below.refl _ _).alloc (Nat.le_refl _) _⟩

def f22 (x : Rt) : Int := x.r
theorem of22 (x : Rt) (n : Int) (w : World) (B : Nat) (_hB : B ≤ w.heap.size) (_hx : RtOk w B x) (_hs : Small x) : Calls Try.prog 48 #[x.cand n] w fun e w' => e = .returned (.int .i64 (f22 x)) ∧ Below w.heap.size w w' := by
  clear _hx _hs
  unfold Rt.cand
  go_enter Try.func48, Try.ntmps48
  go_wp2_with fail
  go_ret
  exact ⟨rfl, (Below.refl _ _).alloc (Nat.le_refl _) _⟩

def f23 (x : Rt) : Int := x.i
theorem of23 (x : Rt) (n : Int) (w : World) (B : Nat) (_hB : B ≤ w.heap.size) (_hx : RtOk w B x) (_hs : Small x) : Calls Try.prog 49 #[x.cand n] w fun e w' => e = .returned (.int .i64 (f23 x)) ∧ Below w.heap.size w w' := by
  clear _hx _hs
  unfold Rt.cand
  go_enter Try.func49, Try.ntmps49
  go_wp2_with fail
  go_ret
  exact ⟨rfl, (Below.refl _ _).alloc (Nat.le_refl _) _⟩

theorem neq31 (x : Rt) (n best : Int) (bf bb : Nat) (w : World) (B : Nat) (hB : B ≤ w.heap.size) (hx : RtOk w B x) (hs : Small x) (hf : w.heap[bf]? = some (.cells #[.func (.func 71) #[] #[]] 120 (0, 0))) (hb0 : w.heap[bb]? = some (.cells #[.int .i64 best] 3 (0, 0))) :
    Calls Try.prog 70 #[x.cand n, .pointer (some ⟨bf, 0, none⟩), .pointer (some ⟨bb, 0, none⟩)] w fun e w' => e = .returned (.bool (f31 x != best)) ∧ Below w.heap.size w w' := by
  have HC := Lib.hid (fun w' (h : Below w.heap.size w w') => of31 x n w' B (Nat.le_trans hB h.size) (hx.below (h.mono hB)) hs)
  have q1 : ∀ o : Obj, (w.alloc o).cell? ⟨bf, 0, none⟩ = some (.func (.func 71) #[] #[]) := fun o => cell_of (hold hf) rfl
  have q2 : ∀ o : Obj, (w.alloc o).cell? ⟨bb, 0, none⟩ = some (.int .i64 best) := fun o => cell_of (hold hb0) rfl
  have l1 := lt_of_blk hf
  have l2 := lt_of_blk hb0
  clear hx hs hf hb0
  unfold Rt.cand at *
  go_enter Try.func70, Try.ntmps70
  go_wp2_with fail
  go_region_held3 (fun w' => w'.cell? ⟨bf, 0, none⟩ = some (.func (.func 71) #[] #[]) ∧ w'.cell? ⟨bb, 0, none⟩ = some (.int .i64 best) ∧ w'.cell? ⟨w.heap.size, 0, none⟩ = some (.int .i64 x.r) ∧ w'.cell? ⟨w.heap.size, 1, none⟩ = some (.int .u32 x.a) ∧ w'.cell? ⟨w.heap.size, 2, none⟩ = some (.int .i64 x.l) ∧ w'.cell? ⟨w.heap.size, 3, none⟩ = some (.int .i64 x.i) ∧ w'.cell? ⟨w.heap.size, 4, none⟩ = some (.int .i64 x.o) ∧ w'.cell? ⟨w.heap.size, 5, none⟩ = some (.slice x.pa x.pn x.pc) ∧ w'.cell? ⟨w.heap.size, 6, none⟩ = some (.int .u32 x.nx) ∧ w'.cell? ⟨w.heap.size, 7, none⟩ = some (.int .i64 x.md) ∧ w'.cell? ⟨w.heap.size, 8, none⟩ = some (.int .i64 x.pf) ∧ w'.cell? ⟨w.heap.size, 9, none⟩ = some (.slice x.ca x.cn x.cc) ∧ w'.cell? ⟨w.heap.size, 10, none⟩ = some (.int .i64 n)) (first | go_keep | ((repeat' apply And.intro) <;> (refine (hb.cell ?_).trans ?_ <;> first | assumption | (simp; omega) | (simp; done) | (simp [q1, q2]; done)))) ((first | (go_at_call 71; refine (HC.out _ (((Below.refl _ _).alloc (Nat.le_refl _) _).drew)).mono ?_; rintro e w1 ⟨rfl, hb⟩)))
  go_wp2_with fail
  go_ret
  exact ⟨rfl, ((Below.refl _ _).alloc (Nat.le_refl _) _).drew.trans (hb.mono (by simp))⟩

theorem neq32 (x : Rt) (n best : Int) (bf bb : Nat) (w : World) (B : Nat) (hB : B ≤ w.heap.size) (hx : RtOk w B x) (hs : Small x) (hf : w.heap[bf]? = some (.cells #[.func (.func 73) #[] #[]] 120 (0, 0))) (hb0 : w.heap[bb]? = some (.cells #[.int .i64 best] 3 (0, 0))) :
    Calls Try.prog 70 #[x.cand n, .pointer (some ⟨bf, 0, none⟩), .pointer (some ⟨bb, 0, none⟩)] w fun e w' => e = .returned (.bool (f32 x != best)) ∧ Below w.heap.size w w' := by
  have HC := Lib.hid (fun w' (h : Below w.heap.size w w') => of32 x n w' B (Nat.le_trans hB h.size) (hx.below (h.mono hB)) hs)
  have q1 : ∀ o : Obj, (w.alloc o).cell? ⟨bf, 0, none⟩ = some (.func (.func 73) #[] #[]) := fun o => cell_of (hold hf) rfl
  have q2 : ∀ o : Obj, (w.alloc o).cell? ⟨bb, 0, none⟩ = some (.int .i64 best) := fun o => cell_of (hold hb0) rfl
  have l1 := lt_of_blk hf
  have l2 := lt_of_blk hb0
  clear hx hs hf hb0
  unfold Rt.cand at *
  go_enter Try.func70, Try.ntmps70
  go_wp2_with fail
  go_region_held3 (fun w' => w'.cell? ⟨bf, 0, none⟩ = some (.func (.func 73) #[] #[]) ∧ w'.cell? ⟨bb, 0, none⟩ = some (.int .i64 best) ∧ w'.cell? ⟨w.heap.size, 0, none⟩ = some (.int .i64 x.r) ∧ w'.cell? ⟨w.heap.size, 1, none⟩ = some (.int .u32 x.a) ∧ w'.cell? ⟨w.heap.size, 2, none⟩ = some (.int .i64 x.l) ∧ w'.cell? ⟨w.heap.size, 3, none⟩ = some (.int .i64 x.i) ∧ w'.cell? ⟨w.heap.size, 4, none⟩ = some (.int .i64 x.o) ∧ w'.cell? ⟨w.heap.size, 5, none⟩ = some (.slice x.pa x.pn x.pc) ∧ w'.cell? ⟨w.heap.size, 6, none⟩ = some (.int .u32 x.nx) ∧ w'.cell? ⟨w.heap.size, 7, none⟩ = some (.int .i64 x.md) ∧ w'.cell? ⟨w.heap.size, 8, none⟩ = some (.int .i64 x.pf) ∧ w'.cell? ⟨w.heap.size, 9, none⟩ = some (.slice x.ca x.cn x.cc) ∧ w'.cell? ⟨w.heap.size, 10, none⟩ = some (.int .i64 n)) (first | go_keep | ((repeat' apply And.intro) <;> (refine (hb.cell ?_).trans ?_ <;> first | assumption | (simp; omega) | (simp; done) | (simp [q1, q2]; done)))) ((first | (go_at_call 73; refine (HC.out _ (((Below.refl _ _).alloc (Nat.le_refl _) _).drew)).mono ?_; rintro e w1 ⟨rfl, hb⟩)))
  go_wp2_with fail
  go_ret
  exact ⟨rfl, ((Below.refl _ _).alloc (Nat.le_refl _) _).drew.trans (hb.mono (by simp))⟩

theorem neq34 (x : Rt) (n best : Int) (bf bb : Nat) (w : World) (B : Nat) (hB : B ≤ w.heap.size) (hx : RtOk w B x) (hs : Small x) (hf : w.heap[bf]? = some (.cells #[.func (.func 75) #[] #[]] 120 (0, 0))) (hb0 : w.heap[bb]? = some (.cells #[.int .i64 best] 3 (0, 0))) :
    Calls Try.prog 70 #[x.cand n, .pointer (some ⟨bf, 0, none⟩), .pointer (some ⟨bb, 0, none⟩)] w fun e w' => e = .returned (.bool (f34 x != best)) ∧ Below w.heap.size w w' := by
  have HC := Lib.hid (fun w' (h : Below w.heap.size w w') => of34 x n w' B (Nat.le_trans hB h.size) (hx.below (h.mono hB)) hs)
  have q1 : ∀ o : Obj, (w.alloc o).cell? ⟨bf, 0, none⟩ = some (.func (.func 75) #[] #[]) := fun o => cell_of (hold hf) rfl
  have q2 : ∀ o : Obj, (w.alloc o).cell? ⟨bb, 0, none⟩ = some (.int .i64 best) := fun o => cell_of (hold hb0) rfl
  have l1 := lt_of_blk hf
  have l2 := lt_of_blk hb0
  clear hx hs hf hb0
  unfold Rt.cand at *
  go_enter Try.func70, Try.ntmps70
  go_wp2_with fail
  go_region_held3 (fun w' => w'.cell? ⟨bf, 0, none⟩ = some (.func (.func 75) #[] #[]) ∧ w'.cell? ⟨bb, 0, none⟩ = some (.int .i64 best) ∧ w'.cell? ⟨w.heap.size, 0, none⟩ = some (.int .i64 x.r) ∧ w'.cell? ⟨w.heap.size, 1, none⟩ = some (.int .u32 x.a) ∧ w'.cell? ⟨w.heap.size, 2, none⟩ = some (.int .i64 x.l) ∧ w'.cell? ⟨w.heap.size, 3, none⟩ = some (.int .i64 x.i) ∧ w'.cell? ⟨w.heap.size, 4, none⟩ = some (.int .i64 x.o) ∧ w'.cell? ⟨w.heap.size, 5, none⟩ = some (.slice x.pa x.pn x.pc) ∧ w'.cell? ⟨w.heap.size, 6, none⟩ = some (.int .u32 x.nx) ∧ w'.cell? ⟨w.heap.size, 7, none⟩ = some (.int .i64 x.md) ∧ w'.cell? ⟨w.heap.size, 8, none⟩ = some (.int .i64 x.pf) ∧ w'.cell? ⟨w.heap.size, 9, none⟩ = some (.slice x.ca x.cn x.cc) ∧ w'.cell? ⟨w.heap.size, 10, none⟩ = some (.int .i64 n)) (first | go_keep | ((repeat' apply And.intro) <;> (refine (hb.cell ?_).trans ?_ <;> first | assumption | (simp; omega) | (simp; done) | (simp [q1, q2]; done)))) ((first | (go_at_call 75; refine (HC.out _ (((Below.refl _ _).alloc (Nat.le_refl _) _).drew)).mono ?_; rintro e w1 ⟨rfl, hb⟩)))
  go_wp2_with fail
  go_ret
  exact ⟨rfl, ((Below.refl _ _).alloc (Nat.le_refl _) _).drew.trans (hb.mono (by simp))⟩

theorem neq22 (x : Rt) (n best : Int) (bf bb : Nat) (w : World) (B : Nat) (hB : B ≤ w.heap.size) (hx : RtOk w B x) (hs : Small x) (hf : w.heap[bf]? = some (.cells #[.func (.func 48) #[] #[]] 120 (0, 0))) (hb0 : w.heap[bb]? = some (.cells #[.int .i64 best] 3 (0, 0))) :
    Calls Try.prog 70 #[x.cand n, .pointer (some ⟨bf, 0, none⟩), .pointer (some ⟨bb, 0, none⟩)] w fun e w' => e = .returned (.bool (f22 x != best)) ∧ Below w.heap.size w w' := by
  have HC := Lib.hid (fun w' (h : Below w.heap.size w w') => of22 x n w' B (Nat.le_trans hB h.size) (hx.below (h.mono hB)) hs)
  have q1 : ∀ o : Obj, (w.alloc o).cell? ⟨bf, 0, none⟩ = some (.func (.func 48) #[] #[]) := fun o => cell_of (hold hf) rfl
  have q2 : ∀ o : Obj, (w.alloc o).cell? ⟨bb, 0, none⟩ = some (.int .i64 best) := fun o => cell_of (hold hb0) rfl
  have l1 := lt_of_blk hf
  have l2 := lt_of_blk hb0
  clear hx hs hf hb0
  unfold Rt.cand at *
  go_enter Try.func70, Try.ntmps70
  go_wp2_with fail
  go_region_held3 (fun w' => w'.cell? ⟨bf, 0, none⟩ = some (.func (.func 48) #[] #[]) ∧ w'.cell? ⟨bb, 0, none⟩ = some (.int .i64 best) ∧ w'.cell? ⟨w.heap.size, 0, none⟩ = some (.int .i64 x.r) ∧ w'.cell? ⟨w.heap.size, 1, none⟩ = some (.int .u32 x.a) ∧ w'.cell? ⟨w.heap.size, 2, none⟩ = some (.int .i64 x.l) ∧ w'.cell? ⟨w.heap.size, 3, none⟩ = some (.int .i64 x.i) ∧ w'.cell? ⟨w.heap.size, 4, none⟩ = some (.int .i64 x.o) ∧ w'.cell? ⟨w.heap.size, 5, none⟩ = some (.slice x.pa x.pn x.pc) ∧ w'.cell? ⟨w.heap.size, 6, none⟩ = some (.int .u32 x.nx) ∧ w'.cell? ⟨w.heap.size, 7, none⟩ = some (.int .i64 x.md) ∧ w'.cell? ⟨w.heap.size, 8, none⟩ = some (.int .i64 x.pf) ∧ w'.cell? ⟨w.heap.size, 9, none⟩ = some (.slice x.ca x.cn x.cc) ∧ w'.cell? ⟨w.heap.size, 10, none⟩ = some (.int .i64 n)) (first | go_keep | ((repeat' apply And.intro) <;> (refine (hb.cell ?_).trans ?_ <;> first | assumption | (simp; omega) | (simp; done) | (simp [q1, q2]; done)))) ((first | (go_at_call 48; refine (HC.out _ (((Below.refl _ _).alloc (Nat.le_refl _) _).drew)).mono ?_; rintro e w1 ⟨rfl, hb⟩)))
  go_wp2_with fail
  go_ret
  exact ⟨rfl, ((Below.refl _ _).alloc (Nat.le_refl _) _).drew.trans (hb.mono (by simp))⟩

theorem neq23 (x : Rt) (n best : Int) (bf bb : Nat) (w : World) (B : Nat) (hB : B ≤ w.heap.size) (hx : RtOk w B x) (hs : Small x) (hf : w.heap[bf]? = some (.cells #[.func (.func 49) #[] #[]] 120 (0, 0))) (hb0 : w.heap[bb]? = some (.cells #[.int .i64 best] 3 (0, 0))) :
    Calls Try.prog 70 #[x.cand n, .pointer (some ⟨bf, 0, none⟩), .pointer (some ⟨bb, 0, none⟩)] w fun e w' => e = .returned (.bool (f23 x != best)) ∧ Below w.heap.size w w' := by
  have HC := Lib.hid (fun w' (h : Below w.heap.size w w') => of23 x n w' B (Nat.le_trans hB h.size) (hx.below (h.mono hB)) hs)
  have q1 : ∀ o : Obj, (w.alloc o).cell? ⟨bf, 0, none⟩ = some (.func (.func 49) #[] #[]) := fun o => cell_of (hold hf) rfl
  have q2 : ∀ o : Obj, (w.alloc o).cell? ⟨bb, 0, none⟩ = some (.int .i64 best) := fun o => cell_of (hold hb0) rfl
  have l1 := lt_of_blk hf
  have l2 := lt_of_blk hb0
  clear hx hs hf hb0
  unfold Rt.cand at *
  go_enter Try.func70, Try.ntmps70
  go_wp2_with fail
  go_region_held3 (fun w' => w'.cell? ⟨bf, 0, none⟩ = some (.func (.func 49) #[] #[]) ∧ w'.cell? ⟨bb, 0, none⟩ = some (.int .i64 best) ∧ w'.cell? ⟨w.heap.size, 0, none⟩ = some (.int .i64 x.r) ∧ w'.cell? ⟨w.heap.size, 1, none⟩ = some (.int .u32 x.a) ∧ w'.cell? ⟨w.heap.size, 2, none⟩ = some (.int .i64 x.l) ∧ w'.cell? ⟨w.heap.size, 3, none⟩ = some (.int .i64 x.i) ∧ w'.cell? ⟨w.heap.size, 4, none⟩ = some (.int .i64 x.o) ∧ w'.cell? ⟨w.heap.size, 5, none⟩ = some (.slice x.pa x.pn x.pc) ∧ w'.cell? ⟨w.heap.size, 6, none⟩ = some (.int .u32 x.nx) ∧ w'.cell? ⟨w.heap.size, 7, none⟩ = some (.int .i64 x.md) ∧ w'.cell? ⟨w.heap.size, 8, none⟩ = some (.int .i64 x.pf) ∧ w'.cell? ⟨w.heap.size, 9, none⟩ = some (.slice x.ca x.cn x.cc) ∧ w'.cell? ⟨w.heap.size, 10, none⟩ = some (.int .i64 n)) (first | go_keep | ((repeat' apply And.intro) <;> (refine (hb.cell ?_).trans ?_ <;> first | assumption | (simp; omega) | (simp; done) | (simp [q1, q2]; done)))) ((first | (go_at_call 49; refine (HC.out _ (((Below.refl _ _).alloc (Nat.le_refl _) _).drew)).mono ?_; rintro e w1 ⟨rfl, hb⟩)))
  go_wp2_with fail
  go_ret
  exact ⟨rfl, ((Below.refl _ _).alloc (Nat.le_refl _) _).drew.trans (hb.mono (by simp))⟩
end Go.Proofs.Ytgainkgbodmciaa
/- Rows of candidates. -/
namespace Go.Proofs.Ytgainkgbodmciaa
open Go.RowKit

abbrev Cd := Rt × Int
instance : Inhabited Cd := ⟨(default, 0)⟩
def cdCells (c : Cd) : List Value := c.1.cells ++ [.int .i64 c.2]
def flatC (L : List Cd) : List Value := L.flatMap cdCells
theorem cdCells_length (c : Cd) : (cdCells c).length = 11 := rfl
theorem flatC_length (L : List Cd) : (flatC L).length = L.length * 11 := by
  induction L with
  | nil => rfl
  | cons c r ih => simp only [flatC, List.flatMap_cons, List.length_append, cdCells_length, List.length_cons] at *; omega
theorem flatC_get (L : List Cd) (i j : Nat) (hi : i < L.length) (hj : j < 11) : (flatC L)[i * 11 + j]? = (cdCells (L.getD i default))[j]? := by
  induction L generalizing i with
  | nil => simp at hi
  | cons c r ih =>
    unfold flatC at *
    rw [List.flatMap_cons]
    cases i with
    | zero =>
      rw [List.getElem?_append_left (by rw [cdCells_length]; omega)]
      simp
    | succ i =>
      rw [List.getElem?_append_right (by rw [cdCells_length]; omega), cdCells_length]
      have := ih i (by simpa using hi)
      rw [show (i + 1) * 11 + j - 11 = i * 11 + j by omega, this]
      simp
/-- the row of a block holds L first -/
structure RowC (w : World) (b cap : Nat) (L : List Cd) (cur : Array Value) : Prop where
  blk : w.heap[b]? = some (.cells cur 119 (0, 0))
  size : cur.size = cap * 11
  le : L.length ≤ cap
  max : cap ≤ maxLen
  get : ∀ i j, i < L.length → j < 11 → cur[i * 11 + j]? = (cdCells (L.getD i default))[j]?
theorem RowC.of_owns {w : World} {base b cap : Nat} {L : List Cd} (h : w.ownsRow base 119 11 (.slice (some ⟨b, 0, none⟩) L.length cap) L.length (flatC L)) : ∃ cur, RowC w b cap L cur ∧ base ≤ b := by
  obtain ⟨h1, h2⟩ := h
  rcases h2 with ⟨h2, _⟩ | ⟨g, cap', cur, hv, hg, hh, h3, h4, h5, h6⟩
  · cases h2
  · cases hv
    refine ⟨cur, ⟨hh, h5, h3, h4, ?_⟩, hg⟩
    intro i j hi hj
    rw [← flatC_get L i j hi hj, ← h6, List.getElem?_take, if_pos (by omega)]
    simp
theorem RowC.keep {w w' : World} {b cap : Nat} {L : List Cd} {cur : Array Value} (h : RowC w b cap L cur) (e : w'.heap[b]? = w.heap[b]?) : RowC w' b cap L cur := ⟨e.trans h.blk, h.size, h.le, h.max, h.get⟩
/-- the eleven cells of a place -/
structure Cells11 (w : World) (b o : Nat) (x : Rt) (n : Int) : Prop where
  c0 : w.cell? ⟨b, o, none⟩ = some (.int .i64 x.r)
  c1 : w.cell? ⟨b, o + 1, none⟩ = some (.int .u32 x.a)
  c2 : w.cell? ⟨b, o + 2, none⟩ = some (.int .i64 x.l)
  c3 : w.cell? ⟨b, o + 3, none⟩ = some (.int .i64 x.i)
  c4 : w.cell? ⟨b, o + 4, none⟩ = some (.int .i64 x.o)
  c5 : w.cell? ⟨b, o + 5, none⟩ = some (.slice x.pa x.pn x.pc)
  c6 : w.cell? ⟨b, o + 6, none⟩ = some (.int .u32 x.nx)
  c7 : w.cell? ⟨b, o + 7, none⟩ = some (.int .i64 x.md)
  c8 : w.cell? ⟨b, o + 8, none⟩ = some (.int .i64 x.pf)
  c9 : w.cell? ⟨b, o + 9, none⟩ = some (.slice x.ca x.cn x.cc)
  c10 : w.cell? ⟨b, o + 10, none⟩ = some (.int .i64 n)
theorem RowC.at {w : World} {b cap : Nat} {L : List Cd} {cur : Array Value} (h : RowC w b cap L cur) {i : Nat} (hi : i < L.length) : Cells11 w b (i * 11) (L.getD i default).1 (L.getD i default).2 := by
  have g := fun j hj => h.get i j hi hj
  exact ⟨cell_of h.blk (g 0 (by omega)), cell_of h.blk (g 1 (by omega)), cell_of h.blk (g 2 (by omega)), cell_of h.blk (g 3 (by omega)), cell_of h.blk (g 4 (by omega)), cell_of h.blk (g 5 (by omega)), cell_of h.blk (g 6 (by omega)), cell_of h.blk (g 7 (by omega)), cell_of h.blk (g 8 (by omega)), cell_of h.blk (g 9 (by omega)), cell_of h.blk (g 10 (by omega))⟩

/-- the place of the first that p holds of -/
def idxOf (p : Cd → Bool) : List Cd → Nat
  | [] => 0
  | c :: r => if p c then 0 else idxOf p r + 1
theorem idxOf_le (p : Cd → Bool) (L : List Cd) : idxOf p L ≤ L.length := by
  induction L with
  | nil => simp [idxOf]
  | cons c r ih => unfold idxOf; split <;> simp <;> omega
theorem idxOf_eq (p : Cd → Bool) (L : List Cd) (k : Nat) (hk : k < L.length) (hno : ∀ i, i < k → p (L.getD i default) = false) (hy : p (L.getD k default) = true) : idxOf p L = k := by
  induction L generalizing k with
  | nil => simp at hk
  | cons c r ih =>
    unfold idxOf
    cases k with
    | zero => simp at hy; simp [hy]
    | succ k =>
      have h0 := hno 0 (by omega)
      simp at h0
      rw [if_neg (by simp [h0]), ih k (by simpa using hk) (fun i hi => by have := hno (i + 1) (by omega); simpa using this) (by simpa using hy)]
theorem idxOf_none (p : Cd → Bool) (L : List Cd) (hno : ∀ i, i < L.length → p (L.getD i default) = false) : idxOf p L = L.length := by
  induction L with
  | nil => rfl
  | cons c r ih =>
    have h0 := hno 0 (by simp)
    simp at h0
    unfold idxOf
    rw [if_neg (by simp [h0]), ih (fun i hi => by have := hno (i + 1) (by simpa using hi); simpa using this)]
    rfl
end Go.Proofs.Ytgainkgbodmciaa
/- slices.IndexFunc over candidates, by the two closures. -/
namespace Go.Proofs.Ytgainkgbodmciaa
open Go.RowKit
def idxI (p : Cd → Bool) (L : List Cd) : Int := if idxOf p L = L.length then -1 else idxOf p L

/-- what the closure is good for: in whatever world that comes of w by changing the row and new blocks -/
def Dela (bf bb : Nat) (p : Cd → Bool) (L : List Cd) (w : World) (bs : List Nat) : Prop :=
  ∀ w', But w w' bs → ∀ c ∈ L, Calls Try.prog 70 #[c.1.cand c.2, .pointer (some ⟨bf, 0, none⟩), .pointer (some ⟨bb, 0, none⟩)] w' fun e w'' => e = .returned (.bool (p c)) ∧ Below w'.heap.size w' w''

set_option maxHeartbeats 1000000 in
theorem indexa (bf bb : Nat) (p : Cd → Bool) (b cap : Nat) (L : List Cd) (cur : Array Value) (w : World) (bs : List Nat) (hr : RowC w b cap L cur) (hd : Dela bf bb p L w bs) :
    Calls Try.prog 89 #[.slice (some ⟨b, 0, none⟩) L.length cap, .func (.func 70) #[] #[.pointer (some ⟨bf, 0, none⟩), .pointer (some ⟨bb, 0, none⟩)]] w fun e w' => e = .returned (.int .i64 (idxI p L)) ∧ Below w.heap.size w w' := by
  obtain ⟨n, hn⟩ : ∃ n, n = L.length := ⟨_, rfl⟩
  rw [← hn]
  have hm : n ≤ 9223372036854775807 := by have h1 := hr.le; have h2 := hr.max; unfold maxLen at h2; omega
  have HD := Lib.hid (And.intro hr (And.intro hd hn))
  have lb := lt_of_blk hr.blk
  clear hr hd hn
  go_enter Try.func89, Try.ntmps89
  go_wp2_with fail
  go_loopw [8] (fun i wr => ∃ k : Nat, k ≤ n ∧ i = .int .i64 k ∧ (∀ j, j < k → p (L.getD j default) = false) ∧ Below w.heap.size w wr) (fun i _ => n - (intOf i).toNat)
  case atStart => exact ⟨0, Nat.zero_le _, rfl, fun _ h => absurd h (Nat.not_lt_zero _), Below.refl _ _⟩
  case round =>
    obtain ⟨k, hk, rfl, hno, hb⟩ := hrel
    obtain ⟨hr, hd, hn⟩ := HD.out
    by_cases hlt : k < n
    · have hr' := hr.keep (hb.block b lb)
      obtain ⟨c0, c1, c2, c3, c4, c5, c6, c7, c8, c9, c10⟩ := hr'.at (i := k) (by omega)
      have hmem : L.getD k default ∈ L := by rw [List.getD_eq_getElem?_getD, List.getElem?_eq_getElem (by omega : k < L.length)]; exact List.getElem_mem _
      have hcall := hd wr (But.of_below hb bs) _ hmem
      have HP := Lib.hid (And.intro hno (And.intro hb hn))
      generalize hq : L.getD k default = q at *
      obtain ⟨x, m⟩ := q
      dsimp only at c0 c1 c2 c3 c4 c5 c6 c7 c8 c9 c10 hcall
      have HQ := Lib.hid hq
      clear hq hd hr hr' hmem hb hno hn
      unfold Rt.cand at hcall
      cases hp : p (x, m) with
      | true =>
        rw [hp] at hcall
        have HC := Lib.hid hcall
        have HPT := Lib.hid hp
        clear hcall hp
        go_wp2_with fail
        refine (HC.out).mono ?_
        rintro e w1 ⟨rfl, hb1⟩
        go_wp2_with fail
        go_ret
        obtain ⟨hno, hb, hn⟩ := HP.out
        have hi := idxOf_eq p L k (by omega) hno (by rw [HQ.out]; exact HPT.out)
        exact ⟨ret_int (by unfold idxI; rw [hi, if_neg (by omega)]), hb.trans (hb1.mono hb.size)⟩
      | false =>
        rw [hp] at hcall
        have HC := Lib.hid hcall
        have HPT := Lib.hid hp
        clear hcall hp
        go_wp2_with fail
        refine (HC.out).mono ?_
        rintro e w1 ⟨rfl, hb1⟩
        go_wp2_with fail
        obtain ⟨hno, hb, hn⟩ := HP.out
        go_roundw
        case rel =>
          refine ⟨k + 1, by omega, by go_num, ?_, hb.trans (hb1.mono hb.size)⟩
          intro j hj
          by_cases hjk : j = k
          · subst hjk; rw [HQ.out]; exact HPT.out
          · exact hno j (by omega)
        case measure => simp [intOf]; omega
    · have HP := Lib.hid (And.intro hno (And.intro hb hn))
      have hf : ¬ ((k : Int) < n) := by omega
      have hkn : k = n := by omega
      have HK := Lib.hid hkn
      clear hno hb hn hd hr hkn
      go_wp2_with fail
      go_ret
      obtain ⟨hno, hb, hn⟩ := HP.out
      have hkn := HK.out
      have hi := idxOf_none p L (fun i hi => hno i (by omega))
      exact ⟨ret_int (by unfold idxI; rw [if_pos hi]), hb⟩

/-- what the closure is good for: in whatever world that comes of w by changing the row and new blocks -/
def Delm (bf : Nat) (p : Cd → Bool) (L : List Cd) (w : World) (bs : List Nat) : Prop :=
  ∀ w', But w w' bs → ∀ c ∈ L, Calls Try.prog 92 #[c.1.cand c.2, .pointer (some ⟨bf, 0, none⟩)] w' fun e w'' => e = .returned (.bool (p c)) ∧ Below w'.heap.size w' w''

set_option maxHeartbeats 1000000 in
theorem indexm (bf : Nat) (p : Cd → Bool) (b cap : Nat) (L : List Cd) (cur : Array Value) (w : World) (bs : List Nat) (hr : RowC w b cap L cur) (hd : Delm bf p L w bs) :
    Calls Try.prog 89 #[.slice (some ⟨b, 0, none⟩) L.length cap, .func (.func 92) #[] #[.pointer (some ⟨bf, 0, none⟩)]] w fun e w' => e = .returned (.int .i64 (idxI p L)) ∧ Below w.heap.size w w' := by
  obtain ⟨n, hn⟩ : ∃ n, n = L.length := ⟨_, rfl⟩
  rw [← hn]
  have hm : n ≤ 9223372036854775807 := by have h1 := hr.le; have h2 := hr.max; unfold maxLen at h2; omega
  have HD := Lib.hid (And.intro hr (And.intro hd hn))
  have lb := lt_of_blk hr.blk
  clear hr hd hn
  go_enter Try.func89, Try.ntmps89
  go_wp2_with fail
  go_loopw [8] (fun i wr => ∃ k : Nat, k ≤ n ∧ i = .int .i64 k ∧ (∀ j, j < k → p (L.getD j default) = false) ∧ Below w.heap.size w wr) (fun i _ => n - (intOf i).toNat)
  case atStart => exact ⟨0, Nat.zero_le _, rfl, fun _ h => absurd h (Nat.not_lt_zero _), Below.refl _ _⟩
  case round =>
    obtain ⟨k, hk, rfl, hno, hb⟩ := hrel
    obtain ⟨hr, hd, hn⟩ := HD.out
    by_cases hlt : k < n
    · have hr' := hr.keep (hb.block b lb)
      obtain ⟨c0, c1, c2, c3, c4, c5, c6, c7, c8, c9, c10⟩ := hr'.at (i := k) (by omega)
      have hmem : L.getD k default ∈ L := by rw [List.getD_eq_getElem?_getD, List.getElem?_eq_getElem (by omega : k < L.length)]; exact List.getElem_mem _
      have hcall := hd wr (But.of_below hb bs) _ hmem
      have HP := Lib.hid (And.intro hno (And.intro hb hn))
      generalize hq : L.getD k default = q at *
      obtain ⟨x, m⟩ := q
      dsimp only at c0 c1 c2 c3 c4 c5 c6 c7 c8 c9 c10 hcall
      have HQ := Lib.hid hq
      clear hq hd hr hr' hmem hb hno hn
      unfold Rt.cand at hcall
      cases hp : p (x, m) with
      | true =>
        rw [hp] at hcall
        have HC := Lib.hid hcall
        have HPT := Lib.hid hp
        clear hcall hp
        go_wp2_with fail
        refine (HC.out).mono ?_
        rintro e w1 ⟨rfl, hb1⟩
        go_wp2_with fail
        go_ret
        obtain ⟨hno, hb, hn⟩ := HP.out
        have hi := idxOf_eq p L k (by omega) hno (by rw [HQ.out]; exact HPT.out)
        exact ⟨ret_int (by unfold idxI; rw [hi, if_neg (by omega)]), hb.trans (hb1.mono hb.size)⟩
      | false =>
        rw [hp] at hcall
        have HC := Lib.hid hcall
        have HPT := Lib.hid hp
        clear hcall hp
        go_wp2_with fail
        refine (HC.out).mono ?_
        rintro e w1 ⟨rfl, hb1⟩
        go_wp2_with fail
        obtain ⟨hno, hb, hn⟩ := HP.out
        go_roundw
        case rel =>
          refine ⟨k + 1, by omega, by go_num, ?_, hb.trans (hb1.mono hb.size)⟩
          intro j hj
          by_cases hjk : j = k
          · subst hjk; rw [HQ.out]; exact HPT.out
          · exact hno j (by omega)
        case measure => simp [intOf]; omega
    · have HP := Lib.hid (And.intro hno (And.intro hb hn))
      have hf : ¬ ((k : Int) < n) := by omega
      have hkn : k = n := by omega
      have HK := Lib.hid hkn
      clear hno hb hn hd hr hkn
      go_wp2_with fail
      go_ret
      obtain ⟨hno, hb, hn⟩ := HP.out
      have hkn := HK.out
      have hi := idxOf_none p L (fun i hi => hno i (by omega))
      exact ⟨ret_int (by unfold idxI; rw [if_pos hi]), hb⟩
end Go.Proofs.Ytgainkgbodmciaa
/- slices.DeleteFunc over candidates, by the two closures. -/
namespace Go.Proofs.Ytgainkgbodmciaa
open Go.RowKit

/-- so many cells of vs are stored from o on -/
structure Part (w : World) (b o : Nat) (cur0 : Array Value) (vs : List Value) (t : Nat) : Prop where
  ex : ∃ cur, w.heap[b]? = some (.cells cur 119 (0, 0)) ∧ cur.size = cur0.size ∧ ∀ q, cur[q]? = if o ≤ q ∧ q < o + t then vs[q - o]? else cur0[q]?
theorem Part.start {w : World} {b o : Nat} {cur0 : Array Value} {vs : List Value} (h : w.heap[b]? = some (.cells cur0 119 (0, 0))) : Part w b o cur0 vs 0 :=
  ⟨cur0, h, rfl, fun q => by rw [if_neg (by omega)]⟩
theorem Part.step {w : World} {b o : Nat} {cur0 : Array Value} {vs : List Value} {t : Nat} (h : Part w b o cur0 vs t) {v : Value} (hv : vs[t]? = some v) (hin : o + t < cur0.size) {a : Nat} (ha : a = o + t) : Part (w.setCell ⟨b, a, none⟩ v) b o cur0 vs (t + 1) := by
  subst ha
  obtain ⟨cur, h1, h2, h3⟩ := h.ex
  refine ⟨cur.setIfInBounds (o + t) v, setCell_blk h1 _ _, by simp [h2], fun q => ?_⟩
  rw [Array.getElem?_setIfInBounds, h3]
  by_cases hq : o + t = q
  · subst hq
    rw [if_pos rfl, if_pos (by rw [h2]; exact hin), if_pos (by omega), show o + t - o = t by omega, hv]
  · rw [if_neg hq]
    by_cases h4 : o ≤ q ∧ q < o + t
    · rw [if_pos h4, if_pos (by omega)]
    · rw [if_neg h4, if_neg (by omega)]
theorem RowC.store {w w' : World} {b cap : Nat} {L : List Cd} {cur : Array Value} (h : RowC w b cap L cur) {i : Nat} (hi : i < L.length) {c : Cd} (hp : Part w' b (i * 11) cur (cdCells c) 11) : ∃ cur', RowC w' b cap (L.set i c) cur' := by
  obtain ⟨cur', h1, h2, h3⟩ := hp.ex
  refine ⟨cur', h1, h2.trans h.size, by simpa using h.le, h.max, ?_⟩
  intro a j ha hj
  rw [h3]
  simp only [List.length_set] at ha
  by_cases hai : a = i
  · subst hai
    rw [if_pos (by omega), show a * 11 + j - a * 11 = j by omega]
    simp [List.getD_eq_getElem?_getD, ha]
  · rw [if_neg (by omega), h.get a j ha hj]
    simp [List.getD_eq_getElem?_getD, Ne.symm hai]
theorem RowC.head {w w' : World} {b cap : Nat} {L : List Cd} {cur cur' : Array Value} (h : RowC w b cap L cur) {i : Nat} (hi : i ≤ L.length) (hb : w'.heap[b]? = some (.cells cur' 119 (0, 0))) (hs : cur'.size = cur.size) (hg : ∀ q, q < i * 11 → cur'[q]? = cur[q]?) : RowC w' b cap (L.take i) cur' := by
  have hl : (L.take i).length = i := by simp; omega
  refine ⟨hb, hs.trans h.size, by rw [hl]; exact Nat.le_trans hi h.le, h.max, ?_⟩
  intro a j ha hj
  rw [hl] at ha
  rw [hg _ (by omega), h.get a j (by omega) hj]
  congr 2
  simp [List.getD_eq_getElem?_getD, ha]

/-- zeroing cells from a place on -/
theorem run_storeCells {P : Program} (b : Nat) (o : Nat) : ∀ (vs : List Value) (i : Nat) (w : World) (cur : Array Value), w.heap[b]? = some (.cells cur 119 (0, 0)) → (∀ v ∈ vs, v.oneCell' = true) → o + i + vs.length ≤ cur.size →
    ∃ w' cur', (storeCells ⟨b, o, none⟩ vs i).run P w = .ok () w' ∧ w'.heap[b]? = some (.cells cur' 119 (0, 0)) ∧ cur'.size = cur.size ∧ (∀ q, q < o + i → cur'[q]? = cur[q]?) ∧ SetB w w' b (.cells cur' 119 (0, 0))
  | [], i, w, cur, h, _, _ => ⟨w, cur, rfl, h, rfl, fun _ _ => rfl, SetB.self h⟩
  | v :: r, i, w, cur, h, h1, hs => by
    have hlt : o + i < cur.size := by simp at hs; omega
    have hc : w.cell? ⟨b, o + i, none⟩ = some cur[o + i] := cell_of h (by simp [hlt])
    have hf : w.frozen? ⟨b, o + i, none⟩ = false := free_of h
    have ha : (Addr.add ⟨b, o, none⟩ i) = ⟨b, o + i, none⟩ := by unfold Addr.add; split <;> simp_all
    obtain ⟨w', cur', e1, e2, e3, e4, e5⟩ := run_storeCells b o r (i + 1) (w.setCell ⟨b, o + i, none⟩ v) (cur.setIfInBounds (o + i) v) (setCell_blk h _ _) (fun u hu => h1 u (List.mem_cons_of_mem _ hu)) (by simp at hs ⊢; omega)
    refine ⟨w', cur', ?_, e2, by simpa using e3, fun q hq => ?_, ((SetB.self h).store (lt_of_blk h) v).trans e5⟩
    · unfold storeCells
      simp only [Sem.run_bind, ha, run_store P w _ v .plain (h1 v (by simp)), hc, hf, Bool.false_eq_true, if_false, Result.andThen]
      exact e1
    · rw [e4 q (by omega), Array.getElem?_setIfInBounds, if_neg (by omega)]

theorem zero50 (w : World) : (zeroValue 119).run Try.prog w = .ok (.agg #[.int .i64 0, .int .u32 0, .int .i64 0, .int .i64 0, .int .i64 0, .slice none 0 0, .int .u32 0, .int .i64 0, .int .i64 0, .slice none 0 0, .int .i64 0]) w := by kernel_rfl
theorem zeroCells_one (z : Array Value) (h : ∀ v ∈ z.toList, v.oneCell' = true) (n : Nat) : ∀ v ∈ (Builtin.zeroCells z n).toList, v.oneCell' = true := by
  intro v hv
  unfold Builtin.zeroCells at hv
  simp only [Array.toList_map, List.mem_map] at hv
  obtain ⟨i, hi, rfl⟩ := hv
  simp at hi
  have hz : i % z.size < z.size := Nat.mod_lt _ (by rcases Nat.eq_zero_or_pos z.size with h0 | h0; rw [h0] at hi; simp at hi; exact h0)
  rw [getElem!_pos z _ hz]
  exact h _ (by simp)
theorem run_clear46 (w : World) (b i n c cap : Nat) (ty : TypeId) (cur : Array Value) (h : w.heap[b]? = some (.cells cur 119 (0, 0))) (hs : cur.size = cap * 11) (hin : i + n ≤ cap) :
    ∃ w' cur', (Builtin.clear_ #[115] ty #[.slice (some ⟨b, i * 11, none⟩) n c]).run Try.prog w = .ok (.tuple #[]) w' ∧ w'.heap[b]? = some (.cells cur' 119 (0, 0)) ∧ cur'.size = cur.size ∧ (∀ q, q < i * 11 → cur'[q]? = cur[q]?) ∧ SetB w w' b (.cells cur' 119 (0, 0)) := by
  cases n with
  | zero => exact ⟨w, cur, by simp [Builtin.clear_, run_underlying Try.underlying115, Result.andThen], h, rfl, fun _ _ => rfl, SetB.self h⟩
  | succ n =>
    obtain ⟨w', cur', e1, e2, e3, e4, e5⟩ := run_storeCells (P := Try.prog) b (i * 11) (Builtin.zeroCells #[.int .i64 0, .int .u32 0, .int .i64 0, .int .i64 0, .int .i64 0, .slice none 0 0, .int .u32 0, .int .i64 0, .int .i64 0, .slice none 0 0, .int .i64 0] (n + 1)).toList 0 w cur h
      (zeroCells_one _ (by simp [Value.oneCell']) _) (by simp [Builtin.zeroCells]; omega)
    refine ⟨w', cur', ?_, e2, e3, e4, e5⟩
    simp only [Builtin.clear_, List.getElem?_toArray, List.getElem?_cons_zero, Sem.run_bind, run_underlying Try.underlying115, Result.andThen, zero50, Sem.run_pure]
    simp only [Value.cells]
    rw [e1]
end Go.Proofs.Ytgainkgbodmciaa
