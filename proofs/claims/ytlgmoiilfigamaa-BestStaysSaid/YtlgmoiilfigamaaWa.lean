/- Walks: lengths and first numbers of paths, preferences, meds. -/
import Derived.Test.YtlgmoiilfigamaaRt
namespace Go.Proofs.Ytlgmoiilfigamaa
open Go.RowKit

theorem length_walk (o nx md pf : Int) (pa ca : Option Addr) (pn pc cn cc : Nat) (path : List SegV) (w : World) (B : Nat) (hB : B ≤ w.heap.size) (hx : PathAt w B pa pn path) (hpl : path.length ≤ 20) (hall : ∀ s ∈ path, s.ns.length ≤ 200) :
    Calls Try.prog 33 #[.agg #[.int .i64 o, .slice pa pn pc, .int .u32 nx, .int .i64 md, .int .i64 pf, .slice ca cn cc]] w fun e w' => e = .returned (.int .i64 (plen path)) ∧ Below w.heap.size w w' := by
  obtain ⟨hn, hm, hp, hseg⟩ := hx
  by_cases h0 : pn = 0
  · subst h0
    have hpath : path = [] := List.eq_nil_of_length_eq_zero hn.symm
    subst hpath
    clear hn hm hp hseg hpl hall hB
    go_enter Try.func33, Try.ntmps33
    go_wp2_with fail
    refine wp_loop_rounds 1 ?_
    rw [rounds_succ]
    go_wp2_with fail
    go_ret
    exact ⟨rfl, (Below.refl _ _).alloc (Nat.le_refl _) _⟩
  obtain ⟨b, off, rfl, hbB, hc⟩ := hp (by omega)
  have HX := Lib.hid (And.intro hc (And.intro hseg (And.intro hall hn)))
  have hle : pn ≤ 20 := by omega
  clear hp hseg hall hn hm hpl hc
  go_enter Try.func33, Try.ntmps33
  go_wp2_with fail
  go_loopw [3, 9] (fun n i wr => ∃ k : Nat, k ≤ pn ∧ i = .int .i64 k ∧ n = .int .i64 (plen (path.take k)) ∧ Below w.heap.size w wr ∧ True) (fun _ i _ => pn - (intOf i).toNat)
  case atStart => exact ⟨0, Nat.zero_le _, rfl, by simp [plen], (Below.refl _ _).alloc (Nat.le_refl _) _, trivial⟩
  case round =>
    obtain ⟨k, hk, rfl, rfl, hb, hbox⟩ := hrel
    obtain ⟨hc, hseg, hall, hn⟩ := HX.out
    by_cases hlt : k < pn
    · obtain ⟨c0, c1⟩ := hc k hlt
      have hkl : k < path.length := by omega
      have hmem : path.getD k default ∈ path := by rw [List.getD_eq_getElem?_getD, List.getElem?_eq_getElem hkl]; exact List.getElem_mem hkl
      have hsl := (hseg _ hmem).1
      have ht := plen_take path k hkl
      have h200 := hall _ hmem
      have hbd := plen_bd (path.take k) (fun s hs => hall s (List.mem_of_mem_take hs))
      have hlen : (path.take k).length ≤ 20 := by simp; omega
      generalize path.getD k default = s at *
      have c0' := (hb.cell (p := ⟨b, off + k * 2, none⟩) (by dsimp only; omega)).trans c0
      have c1' := (hb.cell (p := ⟨b, off + k * 2 + 1, none⟩) (by dsimp only; omega)).trans c1
      have hsn : s.sn ≤ 200 := by omega
      have hp0 := hbd.1
      have hp1 : plen (path.take k) ≤ 4000 := by have := hbd.2; omega
      have HT := Lib.hid (And.intro ht (And.intro hsl (And.intro hb hbox)))
      clear c0 c1 hc hseg ht hsl hn hb hall hmem hbd hlen hkl h200 hbox
      obtain ⟨sset, ssa, ssn, ssc, sns⟩ := s
      dsimp only at *
      cases hset : sset with
      | true =>
        subst hset
        go_wp2_with fail
        obtain ⟨ht, hsl, hb, hbox⟩ := HT.out
        go_roundw
        case rel => exact ⟨k + 1, by omega, by go_num, by rw [ht]; rfl, (hb.alloc (by have := hb.size; omega) _), trivial⟩
        case measure => simp [intOf]; omega
      | false =>
        subst hset
        go_wp2_with fail
        obtain ⟨ht, hsl, hb, hbox⟩ := HT.out
        go_roundw
        case rel => exact ⟨k + 1, by omega, by go_num, by rw [ht]; simp [slen, hsl], (hb.alloc (by have := hb.size; omega) _), trivial⟩
        case measure => simp [intOf]; omega
    · have hf : ¬ ((k : Int) < pn) := by omega
      have HB := Lib.hid (And.intro hb hn)
      clear hc hseg hall hn hb hbox
      go_wp2_with fail
      go_ret
      obtain ⟨hb, hn⟩ := HB.out
      exact ⟨ret_int (by rw [List.take_of_length_le (by omega)]), hb⟩

theorem rlength_walk (o nx md pf : Int) (pa ca : Option Addr) (pn pc cn cc : Nat) (path : List SegV) (w : World) (B : Nat) (hB : B ≤ w.heap.size) (hx : PathAt w B pa pn path) (hpl : path.length ≤ 20) (hall : ∀ s ∈ path, s.ns.length ≤ 200) :
    Calls Try.prog 42 #[.agg #[.int .i64 o, .slice pa pn pc, .int .u32 nx, .int .i64 md, .int .i64 pf, .slice ca cn cc]] w fun e w' => e = .returned (.int .i64 (plen path)) ∧ Below w.heap.size w w' := by
  obtain ⟨hn, hm, hp, hseg⟩ := hx
  by_cases h0 : pn = 0
  · subst h0
    have hpath : path = [] := List.eq_nil_of_length_eq_zero hn.symm
    subst hpath
    clear hn hm hp hseg hpl hall hB
    go_enter Try.func42, Try.ntmps42
    go_wp2_with fail
    refine wp_loop_rounds 1 ?_
    rw [rounds_succ]
    go_wp2_with fail
    go_ret
    exact ⟨rfl, (Below.refl _ _).alloc (Nat.le_refl _) _⟩
  obtain ⟨b, off, rfl, hbB, hc⟩ := hp (by omega)
  have HX := Lib.hid (And.intro hc (And.intro hseg (And.intro hall hn)))
  have hle : pn ≤ 20 := by omega
  clear hp hseg hall hn hm hpl hc
  go_enter Try.func42, Try.ntmps42
  go_wp2_with fail
  go_loopw [3, 4] (fun n i wr => ∃ k : Nat, k ≤ pn ∧ i = .int .i64 k ∧ n = .int .i64 (plen (path.take k)) ∧ Below w.heap.size w wr ∧ wr.heap[w.heap.size]? = some (.cells #[.int .i64 o, .slice (some ⟨b, off, none⟩) pn pc, .int .u32 nx, .int .i64 md, .int .i64 pf, .slice ca cn cc] 38 (0, 0))) (fun _ i _ => pn - (intOf i).toNat)
  case atStart => exact ⟨0, Nat.zero_le _, rfl, by simp [plen], (Below.refl _ _).alloc (Nat.le_refl _) _, hnew _ _⟩
  case round =>
    obtain ⟨k, hk, rfl, rfl, hb, hbox⟩ := hrel
    obtain ⟨hc, hseg, hall, hn⟩ := HX.out
    have bx1 : wr.cell? ⟨w.heap.size, 1, none⟩ = some (.slice (some ⟨b, off, none⟩) pn pc) := cell_of hbox rfl
    by_cases hlt : k < pn
    · obtain ⟨c0, c1⟩ := hc k hlt
      have hkl : k < path.length := by omega
      have hmem : path.getD k default ∈ path := by rw [List.getD_eq_getElem?_getD, List.getElem?_eq_getElem hkl]; exact List.getElem_mem hkl
      have hsl := (hseg _ hmem).1
      have ht := plen_take path k hkl
      have h200 := hall _ hmem
      have hbd := plen_bd (path.take k) (fun s hs => hall s (List.mem_of_mem_take hs))
      have hlen : (path.take k).length ≤ 20 := by simp; omega
      generalize path.getD k default = s at *
      have c0' := (hb.cell (p := ⟨b, off + k * 2, none⟩) (by dsimp only; omega)).trans c0
      have c1' := (hb.cell (p := ⟨b, off + k * 2 + 1, none⟩) (by dsimp only; omega)).trans c1
      have hsn : s.sn ≤ 200 := by omega
      have hp0 := hbd.1
      have hp1 : plen (path.take k) ≤ 4000 := by have := hbd.2; omega
      have HT := Lib.hid (And.intro ht (And.intro hsl (And.intro hb hbox)))
      clear c0 c1 hc hseg ht hsl hn hb hall hmem hbd hlen hkl h200 hbox
      obtain ⟨sset, ssa, ssn, ssc, sns⟩ := s
      dsimp only at *
      cases hset : sset with
      | true =>
        subst hset
        go_wp2_with fail
        obtain ⟨ht, hsl, hb, hbox⟩ := HT.out
        go_roundw
        case rel => exact ⟨k + 1, by omega, by go_num, by rw [ht]; rfl, hb, hbox⟩
        case measure => simp [intOf]; omega
      | false =>
        subst hset
        go_wp2_with fail
        obtain ⟨ht, hsl, hb, hbox⟩ := HT.out
        go_roundw
        case rel => exact ⟨k + 1, by omega, by go_num, by rw [ht]; simp [slen, hsl], hb, hbox⟩
        case measure => simp [intOf]; omega
    · have hf : ¬ ((k : Int) < pn) := by omega
      have HB := Lib.hid (And.intro hb hn)
      clear hc hseg hall hn hb hbox
      go_wp2_with fail
      go_ret
      obtain ⟨hb, hn⟩ := HB.out
      exact ⟨ret_int (by rw [List.take_of_length_le (by omega)]), hb⟩

theorem first_walk (o nx md pf : Int) (pa ca : Option Addr) (pn pc cn cc : Nat) (path : List SegV) (w : World) (B : Nat) (hB : B ≤ w.heap.size) (hx : PathAt w B pa pn path) :
    Calls Try.prog 39 #[.agg #[.int .i64 o, .slice pa pn pc, .int .u32 nx, .int .i64 md, .int .i64 pf, .slice ca cn cc]] w fun e w' => e = .returned (.int .i64 (pfirst path)) ∧ Below w.heap.size w w' := by
  obtain ⟨hn, hm, hp, hseg⟩ := hx
  by_cases h0 : pn = 0
  · subst h0
    have hpath : path = [] := List.eq_nil_of_length_eq_zero hn.symm
    subst hpath
    clear hn hm hp hseg hB
    go_enter Try.func39, Try.ntmps39
    go_wp2_with fail
    go_ret
    exact ⟨rfl, (Below.refl _ _).alloc (Nat.le_refl _) _⟩
  obtain ⟨b, off, rfl, hbB, hc⟩ := hp (by omega)
  obtain ⟨s, rest, rfl⟩ : ∃ s rest, path = s :: rest := by
    cases path with
    | nil => simp at hn; omega
    | cons s rest => exact ⟨s, rest, rfl⟩
  obtain ⟨c0, c1⟩ := hc 0 (by omega)
  simp only [Nat.zero_mul, Nat.add_zero, List.getD_cons_zero] at c0 c1
  have hs := hseg s (by simp)
  have hbs : b < w.heap.size := by omega
  have hne : ((pn : Int) == 0) = false := by simp; omega
  have hlt : (0 : Int) < (pn : Int) := by omega
  have hle : pn ≤ 9223372036854775807 := by unfold maxLen at hm; omega
  have e0 : ∀ o : Obj, (w.alloc o).cell? ⟨b, off, none⟩ = some (.bool s.set) := fun o => ((Below.refl _ _).alloc (Nat.le_refl _) o |>.cell (p := ⟨b, off, none⟩) hbs).trans c0
  have e1 : ∀ o : Obj, (w.alloc o).cell? ⟨b, off + 1, none⟩ = some (.slice s.sa s.sn s.sc) := fun o => ((Below.refl _ _).alloc (Nat.le_refl _) o |>.cell (p := ⟨b, off + 1, none⟩) hbs).trans c1
  clear hn hm hp hseg hc
  obtain ⟨sset, ssa, ssn, ssc, sns⟩ := s
  dsimp only at *
  cases sset with
  | true =>
    clear hs
    go_enter Try.func39, Try.ntmps39
    go_wp2_with fail
    go_ret
    exact ⟨rfl, (Below.refl _ _).alloc (Nat.le_refl _) _⟩
  | false =>
    obtain ⟨g1, g2, g3⟩ := hs
    by_cases h1 : ssn = 0
    · subst h1
      have hns : sns = [] := List.eq_nil_of_length_eq_zero g1.symm
      subst hns
      clear g1 g2 g3
      go_enter Try.func39, Try.ntmps39
      go_wp2_with fail
      go_ret
      exact ⟨rfl, (Below.refl _ _).alloc (Nat.le_refl _) _⟩
    · obtain ⟨b2, off2, rfl, hb2, hc2⟩ := g3 (by omega)
      obtain ⟨y, ys, rfl⟩ : ∃ y ys, sns = y :: ys := by
        cases sns with
        | nil => simp at g1; omega
        | cons y ys => exact ⟨y, ys, rfl⟩
      have d0 := hc2 0 (by omega)
      simp only [Nat.add_zero, List.getD_cons_zero] at d0
      have hbs2 : b2 < w.heap.size := by omega
      have hne2 : ((ssn : Int) == 0) = false := by simp; omega
      have hlt2 : (0 : Int) < (ssn : Int) := by omega
      have hle2 : ssn ≤ 9223372036854775807 := by unfold maxLen at g2; omega
      have f0 : ∀ o : Obj, (w.alloc o).cell? ⟨b2, off2, none⟩ = some (.int .i64 y) := fun o => ((Below.refl _ _).alloc (Nat.le_refl _) o |>.cell (p := ⟨b2, off2, none⟩) hbs2).trans d0
      clear g1 g2 g3 hc2
      go_enter Try.func39, Try.ntmps39
      go_wp2_with fail
      go_ret
      exact ⟨rfl, (Below.refl _ _).alloc (Nat.le_refl _) _⟩

theorem rfirst_walk (o nx md pf : Int) (pa ca : Option Addr) (pn pc cn cc : Nat) (path : List SegV) (w : World) (B : Nat) (hB : B ≤ w.heap.size) (hx : PathAt w B pa pn path) :
    Calls Try.prog 43 #[.agg #[.int .i64 o, .slice pa pn pc, .int .u32 nx, .int .i64 md, .int .i64 pf, .slice ca cn cc]] w fun e w' => e = .returned (.int .i64 (pfirst path)) ∧ Below w.heap.size w w' := by
  obtain ⟨hn, hm, hp, hseg⟩ := hx
  by_cases h0 : pn = 0
  · subst h0
    have hpath : path = [] := List.eq_nil_of_length_eq_zero hn.symm
    subst hpath
    clear hn hm hp hseg hB
    go_enter Try.func43, Try.ntmps43
    go_wp2_with fail
    go_ret
    exact ⟨rfl, (Below.refl _ _).alloc (Nat.le_refl _) _⟩
  obtain ⟨b, off, rfl, hbB, hc⟩ := hp (by omega)
  obtain ⟨s, rest, rfl⟩ : ∃ s rest, path = s :: rest := by
    cases path with
    | nil => simp at hn; omega
    | cons s rest => exact ⟨s, rest, rfl⟩
  obtain ⟨c0, c1⟩ := hc 0 (by omega)
  simp only [Nat.zero_mul, Nat.add_zero, List.getD_cons_zero] at c0 c1
  have hs := hseg s (by simp)
  have hbs : b < w.heap.size := by omega
  have hne : ((pn : Int) == 0) = false := by simp; omega
  have hlt : (0 : Int) < (pn : Int) := by omega
  have hle : pn ≤ 9223372036854775807 := by unfold maxLen at hm; omega
  have e0 : ∀ o : Obj, (w.alloc o).cell? ⟨b, off, none⟩ = some (.bool s.set) := fun o => ((Below.refl _ _).alloc (Nat.le_refl _) o |>.cell (p := ⟨b, off, none⟩) hbs).trans c0
  have e1 : ∀ o : Obj, (w.alloc o).cell? ⟨b, off + 1, none⟩ = some (.slice s.sa s.sn s.sc) := fun o => ((Below.refl _ _).alloc (Nat.le_refl _) o |>.cell (p := ⟨b, off + 1, none⟩) hbs).trans c1
  clear hn hm hp hseg hc
  obtain ⟨sset, ssa, ssn, ssc, sns⟩ := s
  dsimp only at *
  cases sset with
  | true =>
    clear hs
    go_enter Try.func43, Try.ntmps43
    go_wp2_with fail
    go_ret
    exact ⟨rfl, (Below.refl _ _).alloc (Nat.le_refl _) _⟩
  | false =>
    obtain ⟨g1, g2, g3⟩ := hs
    by_cases h1 : ssn = 0
    · subst h1
      have hns : sns = [] := List.eq_nil_of_length_eq_zero g1.symm
      subst hns
      clear g1 g2 g3
      go_enter Try.func43, Try.ntmps43
      go_wp2_with fail
      go_ret
      exact ⟨rfl, (Below.refl _ _).alloc (Nat.le_refl _) _⟩
    · obtain ⟨b2, off2, rfl, hb2, hc2⟩ := g3 (by omega)
      obtain ⟨y, ys, rfl⟩ : ∃ y ys, sns = y :: ys := by
        cases sns with
        | nil => simp at g1; omega
        | cons y ys => exact ⟨y, ys, rfl⟩
      have d0 := hc2 0 (by omega)
      simp only [Nat.add_zero, List.getD_cons_zero] at d0
      have hbs2 : b2 < w.heap.size := by omega
      have hne2 : ((ssn : Int) == 0) = false := by simp; omega
      have hlt2 : (0 : Int) < (ssn : Int) := by omega
      have hle2 : ssn ≤ 9223372036854775807 := by unfold maxLen at g2; omega
      have f0 : ∀ o : Obj, (w.alloc o).cell? ⟨b2, off2, none⟩ = some (.int .i64 y) := fun o => ((Below.refl _ _).alloc (Nat.le_refl _) o |>.cell (p := ⟨b2, off2, none⟩) hbs2).trans d0
      clear g1 g2 g3 hc2
      go_enter Try.func43, Try.ntmps43
      go_wp2_with fail
      go_ret
      exact ⟨rfl, (Below.refl _ _).alloc (Nat.le_refl _) _⟩

theorem pref_walk (o nx md pf : Int) (pa ca : Option Addr) (pn pc cn cc : Nat) (w : World) :
    Calls Try.prog 16 #[.agg #[.int .i64 o, .slice pa pn pc, .int .u32 nx, .int .i64 md, .int .i64 pf, .slice ca cn cc]] w fun e w' => e = .returned (.int .i64 (if pf < 0 then 100 else pf)) ∧ Below w.heap.size w w' := by
  by_cases h0 : pf < 0
  all_goals
    have H0 := Lib.hid h0
    go_enter Try.func16, Try.ntmps16
    go_wp2_with fail
    all_goals
      go_ret
      exact ⟨ret_int (by have := H0.out; first | (rw [if_pos (by omega)]) | (rw [if_neg (by omega)]) | omega), (Below.refl _ _).alloc (Nat.le_refl _) _⟩

theorem rpref_walk (o nx md pf : Int) (pa ca : Option Addr) (pn pc cn cc : Nat) (w : World) :
    Calls Try.prog 17 #[.agg #[.int .i64 o, .slice pa pn pc, .int .u32 nx, .int .i64 md, .int .i64 pf, .slice ca cn cc]] w fun e w' => e = .returned (.int .i64 (if pf < 0 then 100 else pf)) ∧ Below w.heap.size w w' := by
  by_cases h0 : pf < 0
  all_goals
    have H0 := Lib.hid h0
    go_enter Try.func17, Try.ntmps17
    go_wp2_with fail
    all_goals
      go_ret
      exact ⟨ret_int (by have := H0.out; first | (rw [if_pos (by omega)]) | (rw [if_neg (by omega)]) | omega), (Below.refl _ _).alloc (Nat.le_refl _) _⟩

theorem med_walk (o nx md pf : Int) (pa ca : Option Addr) (pn pc cn cc : Nat) (w : World) :
    Calls Try.prog 40 #[.agg #[.int .i64 o, .slice pa pn pc, .int .u32 nx, .int .i64 md, .int .i64 pf, .slice ca cn cc]] w fun e w' => e = .returned (.int .i64 (max md 0)) ∧ Below w.heap.size w w' := by
  by_cases h0 : md < 0
  all_goals
    have H0 := Lib.hid h0
    go_enter Try.func40, Try.ntmps40
    go_wp2_with fail
    all_goals
      go_ret
      exact ⟨ret_int (by have := H0.out; first | (rw [if_pos (by omega)]) | (rw [if_neg (by omega)]) | omega), (Below.refl _ _).alloc (Nat.le_refl _) _⟩

theorem rmed_walk (o nx md pf : Int) (pa ca : Option Addr) (pn pc cn cc : Nat) (w : World) :
    Calls Try.prog 44 #[.agg #[.int .i64 o, .slice pa pn pc, .int .u32 nx, .int .i64 md, .int .i64 pf, .slice ca cn cc]] w fun e w' => e = .returned (.int .i64 (max md 0)) ∧ Below w.heap.size w w' := by
  by_cases h0 : md < 0
  all_goals
    have H0 := Lib.hid h0
    go_enter Try.func44, Try.ntmps44
    go_wp2_with fail
    all_goals
      go_ret
      exact ⟨ret_int (by have := H0.out; first | (rw [if_pos (by omega)]) | (rw [if_neg (by omega)]) | omega), (Below.refl _ _).alloc (Nat.le_refl _) _⟩
end Go.Proofs.Ytlgmoiilfigamaa
