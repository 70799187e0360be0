/- BestRoutes: the law's walk. -/
import Derived.Test.YtlgmoiilfigamaaWw
namespace Go.Proofs.Ytlgmoiilfigamaa
open Go.RowKit

/-- what came in -/
structure Came (w : World) (oa : Option Addr) (n c : Nat) (L : List Rt) : Prop where
  sl : R40.Sl w oa n c L
  nil : oa = none → c = 0
  ok : ∀ x ∈ L, RtOk w w.heap.size x
theorem Came.low {w : World} {oa : Option Addr} {n c : Nat} {L : List Rt} (h : Came w oa n c L) : n ≤ 9223372036854775807 := by have := h.sl.max; unfold maxLen at this; omega

theorem rank_mem (n : Nat) : ∀ (L : List Rt) (x : Rt), n ≤ L.length → x ∈ rank n L → x ∈ L := by
  induction n with
  | zero => intro L x _ h; cases h
  | succ n ih =>
    intro L x hl h
    have hne : L ≠ [] := by intro e; rw [e] at hl; simp at hl
    obtain ⟨hb, -⟩ := best_head L hne
    rcases List.mem_cons.1 h with rfl | h
    · exact getD_mem hb
    · exact List.mem_of_mem_eraseIdx (ih _ _ (by rw [List.length_eraseIdx]; split <;> omega) h)

set_option maxHeartbeats 4000000 in
theorem routes_any (oa : Option Addr) (n c : Nat) (L : List Rt) (w : World) (h : Came w oa n c L) : Calls Try.prog 3 #[.slice oa n c] w fun e w' => e = .returned (.bool true) ∧ Below w.heap.size w w' := by
  have hn := h.low
  have HL := Lib.hid (large_any oa n c L w w.heap.size (Nat.le_refl _) h.sl h.ok)
  cases hlg : largeB L with
  | true =>
    rw [hlg] at HL
    clear hlg h
    go_enter Try.func3, Try.ntmps3
    go_wp2_with fail
    refine (HL.out).mono ?_
    rintro e w1 ⟨rfl, hb⟩
    have B1 := Lib.hid hb
    clear hb
    go_wp2_with fail
    refine (lives_any _).mono ?_
    rintro e w2 ⟨rfl, hb⟩
    have B2 := Lib.hid (B1.out.trans (hb.mono B1.out.size))
    clear hb
    go_wp2_with fail
    go_ret
    exact ⟨rfl, B2.out⟩
  | false =>
    rw [hlg] at HL
    have hi := ins_of (Nat.le_refl _) h.ok hlg
    have hn60 : n ≤ 60 := by rw [h.sl.len]; exact hi.h60
    have HI := Lib.hid (And.intro hi h)
    clear hlg h hi
    go_enter Try.func3, Try.ntmps3
    go_wp2_with fail
    refine (HL.out).mono ?_
    rintro e w1 ⟨rfl, hb⟩
    have B1 := Lib.hid hb
    clear hb
    go_wp2_with fail
    refine (best_any oa n c L w1 w.heap.size (HI.out.2.sl.keep B1.out) (HI.out.1.below B1.out)).mono ?_
    rintro e w2 ⟨rfl, hb⟩
    have B2 := Lib.hid (B1.out.trans (hb.mono B1.out.size))
    clear hb
    go_wp2_with fail
    refine (rbest_any oa n c L w2 w.heap.size (HI.out.2.sl.keep B2.out) (HI.out.1.below B2.out)).mono ?_
    rintro e w3 ⟨rfl, hb⟩
    have B3 := Lib.hid (B2.out.trans (hb.mono B2.out.size))
    clear hb
    go_wp2_with fail
    refine (lives_any _).mono ?_
    rintro e w4 ⟨rfl, hb⟩
    have B4 := Lib.hid (B3.out.trans (hb.mono B3.out.size))
    clear hb
    go_wp2_with fail
    refine (lleft_any oa n c L w4 w.heap.size (HI.out.2.sl.keep B4.out) (HI.out.1.below B4.out)).mono ?_
    rintro e w5 ⟨v5, rfl, hown5, hb⟩
    obtain ⟨a5, c5, rfl, -, -, hsl5, -⟩ := hown5.sl
    have hsz4 := B4.out.size
    have hb5 := B4.out.trans (hb.mono hsz4)
    have hok5 : ∀ x ∈ leftR L, x ∈ L := fun x hx => by
      rw [leftR_eq] at hx
      obtain ⟨i, hi, rfl⟩ := List.mem_map.1 hx
      exact getD_mem (cutI_lt hi)
    have hsz5 := hb5.size
    have B5 := Lib.hid (And.intro hb5 (And.intro hsl5 hok5))
    clear hb hown5 hsl5 hb5 hok5
    go_wp2_with fail
    refine (rleft_any oa n c L w5 w.heap.size (HI.out.2.sl.keep B5.out.1) (HI.out.1.below B5.out.1)).mono ?_
    rintro e w6 ⟨v6, rfl, hown6, hb⟩
    obtain ⟨a6, c6, rfl, -, -, hsl6, -⟩ := hown6.sl
    have hb6 := B5.out.1.trans (hb.mono hsz5)
    have B6 := Lib.hid (And.intro hb6 (And.intro (B5.out.2.1.keep hb) hsl6))
    clear hb hown6 hsl6 hb6
    go_wp2_with fail
    refine (sameRoutes_self a5 a6 _ c5 c6 (leftR L) w6 w.heap.size B6.out.1.size B6.out.2.1 B6.out.2.2 (fun x hx => ((HI.out.1.below B6.out.1).ok x (B5.out.2.2 x hx)).1)).mono ?_
    rintro e w7 ⟨rfl, hb⟩
    have B7 := Lib.hid (B6.out.1.trans (hb.mono B6.out.1.size))
    clear hb
    go_wp2_with fail
    refine (rank_any oa n c L w7 w.heap.size (HI.out.2.sl.keep B7.out) HI.out.2.nil (HI.out.1.below B7.out)).mono ?_
    rintro e w8 ⟨v8, rfl, hown8, hb⟩
    obtain ⟨a8, c8, rfl, -, -, hsl8, -⟩ := hown8.sl
    have hb8 := B7.out.trans (hb.mono B7.out.size)
    have hok8 : ∀ x ∈ rankOf L, x ∈ L := fun x hx => rank_mem _ _ _ (Nat.le_refl _) hx
    have B8 := Lib.hid (And.intro hb8 (And.intro hsl8 hok8))
    clear hb hown8 hsl8 hb8 hok8
    go_wp2_with fail
    refine (rrank_any oa n c L w8 w.heap.size (HI.out.2.sl.keep B8.out.1) HI.out.2.nil (HI.out.1.below B8.out.1)).mono ?_
    rintro e w9 ⟨v9, rfl, hown9, hb⟩
    obtain ⟨a9, c9', rfl, -, -, hsl9, -⟩ := hown9.sl
    have hb9 := B8.out.1.trans (hb.mono B8.out.1.size)
    have B9 := Lib.hid (And.intro hb9 (And.intro (B8.out.2.1.keep hb) hsl9))
    clear hb hown9 hsl9 hb9
    go_wp2_with fail
    refine (sameRoutes_self a8 a9 _ c8 c9' (rankOf L) w9 w.heap.size B9.out.1.size B9.out.2.1 B9.out.2.2 (fun x hx => ((HI.out.1.below B9.out.1).ok x (B8.out.2.2 x hx)).1)).mono ?_
    rintro e w10 ⟨rfl, hb⟩
    have B10 := Lib.hid (B9.out.1.trans (hb.mono B9.out.1.size))
    clear hb
    go_wp2_with fail
    go_loopw [7] (fun jv wr => ∃ k : Nat, k ≤ n ∧ jv = .int .i64 k ∧ Below w.heap.size w wr) (fun jv _ => n - (intOf jv).toNat)
    case atStart => exact ⟨0, Nat.zero_le _, rfl, B10.out⟩
    case round =>
      obtain ⟨k, hk, rfl, hb⟩ := hrel
      have hsz := hb.size
      by_cases hlt : k < n
      · obtain ⟨b, off, rfl, hlb, hat0⟩ := HI.out.2.sl.at hlt
        have hat := hat0.keep (hb.block b hlb)
        generalize L.getD k default = x at *
        have c0 := hat 0 (by decide)
        have c1 := hat 1 (by decide)
        have c2 := hat 2 (by decide)
        have c3 := hat 3 (by decide)
        have c4 := hat 4 (by decide)
        have c5 := hat 5 (by decide)
        have c6 := hat 6 (by decide)
        have c7 := hat 7 (by decide)
        have c8 := hat 8 (by decide)
        have c9 := hat 9 (by decide)
        simp only [R40, Rt.cells, Nat.add_zero, List.getElem?_cons_zero, List.getElem?_cons_succ] at c0 c1 c2 c3 c4 c5 c6 c7 c8 c9
        have HP := Lib.hid (fun w' => pref_any x w')
        have HR := Lib.hid (fun w' => rpref_any x w')
        unfold Rt.attrs at HP HR
        have HB := Lib.hid hb
        have hbl : b < wr.heap.size := by omega
        clear hat hat0 hb
        go_wp2_with fail
        refine wp_region_quiet_tail (fun w' => Below wr.heap.size wr w') 12 (by kernel_rfl) (by kernel_rfl) (Below.drew (Below.refl _ _)) ?_
        simp only [List.take_succ_cons, List.take_zero, List.drop_succ_cons, List.drop_zero]
        iterate 12 (refine wpQuiet_step (fun K hK => ?_); go_simp; first | (refine hK _ ?_; clear hK K) | (apply Exists.intro; refine ⟨fun w' hw' => ?_, hK _ ?_⟩; first | (go_at_call 16; (with_reducible refine (HP.out w').mono ?_); rintro e w2 ⟨rfl, hb⟩; exact ⟨rfl, hw'.trans (hb.mono hw'.size)⟩) | (go_at_call 17; (with_reducible refine (HR.out w').mono ?_); rintro e w2 ⟨rfl, hb⟩; exact ⟨rfl, hw'.trans (hb.mono hw'.size)⟩) | (have p4 := Below.cell hw' (p := ⟨b, off + k * 10 + 4, none⟩) (by dsimp only; omega); have p5 := Below.cell hw' (p := ⟨b, off + k * 10 + 5, none⟩) (by dsimp only; omega); have p6 := Below.cell hw' (p := ⟨b, off + k * 10 + 6, none⟩) (by dsimp only; omega); have p7 := Below.cell hw' (p := ⟨b, off + k * 10 + 7, none⟩) (by dsimp only; omega); have p8 := Below.cell hw' (p := ⟨b, off + k * 10 + 8, none⟩) (by dsimp only; omega); have p9 := Below.cell hw' (p := ⟨b, off + k * 10 + 9, none⟩) (by dsimp only; omega); go_simp; first | exact rfl | exact ⟨rfl, rfl⟩); clear hK K))
        refine wpQuiet_nil ?_
        intro wq hq
        have HBq := Lib.hid (HB.out.trans (hq.mono hsz))
        clear hq c0 c1 c2 c3 c4 c5 c6 c7 c8 c9
        go_wp2_with fail
        go_roundw
        case rel => exact ⟨k + 1, by omega, by go_num, HBq.out⟩
        case measure => simp [intOf]; omega
      · have hf : ¬ ((k : Int) < n) := by omega
        have HB := Lib.hid hb
        clear hb
        go_wp2_with fail
        go_ret
        exact ⟨rfl, HB.out⟩
end Go.Proofs.Ytlgmoiilfigamaa
