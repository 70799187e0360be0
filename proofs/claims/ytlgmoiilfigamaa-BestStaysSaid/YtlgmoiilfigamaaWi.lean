/- left: the candidates, and what is left of them. -/
import Derived.Test.YtlgmoiilfigamaaLf31
import Derived.Test.YtlgmoiilfigamaaLf32
import Derived.Test.YtlgmoiilfigamaaLf34
import Derived.Test.YtlgmoiilfigamaaLf22
import Derived.Test.YtlgmoiilfigamaaLf23
import Derived.Test.YtlgmoiilfigamaaWh
import Derived.Test.YtlgmoiilfigamaaRo
import Derived.Test.YtlgmoiilfigamaaEl
namespace Go.Proofs.Ytlgmoiilfigamaa
open Go.RowKit

def R50 : Rep Cd := ⟨50, 11, by decide, cdCells, cdCells_length, fun _ => rfl⟩
def R40 : Rep Rt := ⟨40, 10, by decide, Rt.cells, fun _ => rfl, fun _ => rfl⟩
theorem T46 : Rep.Ty Try.prog 46 R50 120 := Rep.Ty.mk' Try.underlying46 (z := .agg #[.int .i64 0, .int .u32 0, .int .i64 0, .int .i64 0, .int .i64 0, .slice none 0 0, .int .u32 0, .int .i64 0, .int .i64 0, .slice none 0 0, .int .i64 0]) (by kernel_rfl) rfl
theorem T22 : Rep.Ty Try.prog 22 R40 112 := Rep.Ty.mk' Try.underlying22 (z := .agg #[.int .i64 0, .int .u32 0, .int .i64 0, .int .i64 0, .int .i64 0, .slice none 0 0, .int .u32 0, .int .i64 0, .int .i64 0, .slice none 0 0]) (by kernel_rfl) rfl

def leftOf (L : List Rt) : List Cd := cut lookC 4 (withAt L)
/-- candidates that are being cut, in a block of the call's own -/
structure LSt (B : Nat) (L : List Cd) (W : World) (g cap : Nat) (M : List Cd) (w : World) : Prop where
  row : ∃ cur, RowC w g cap M cur
  sub : ∀ c ∈ M, c ∈ L
  ne : M ≠ []
  below : Below W.heap.size W w
  hg : W.heap.size ≤ g
  ok : AllOk W B L
  hB : B ≤ W.heap.size
theorem LSt.step {B : Nat} {L : List Cd} {W : World} {g cap : Nat} {M M' : List Cd} {w w' : World} (h : LSt B L W g cap M w) (hr : ∃ cur, RowC w' g cap M' cur) (hs : ∀ c ∈ M', c ∈ M) (hne : M' ≠ []) (hb : But w w' [g]) : LSt B L W g cap M' w' :=
  ⟨hr, fun c hc => h.sub c (hs c hc), hne, h.below.trans (hb.below h.below.size (by simpa using h.hg)), h.hg, h.ok, h.hB⟩
theorem LSt.all {B : Nat} {L : List Cd} {W : World} {g cap : Nat} {M : List Cd} {w : World} (h : LSt B L W g cap M w) : AllOk w B M := fun c hc => ⟨(h.ok c (h.sub c hc)).1.below (h.below.mono h.hB), (h.ok c (h.sub c hc)).2⟩
theorem lst31 {B : Nat} {L : List Cd} {W : World} {g cap : Nat} {M : List Cd} {w : World} (h : LSt B L W g cap M w) : Calls Try.prog 20 #[.slice (some ⟨g, 0, none⟩) M.length cap, .func (.func 31) #[] #[]] w fun e w' => e = .returned (.slice (some ⟨g, 0, none⟩) (keep lookC 0 M).length cap) ∧ LSt B L W g cap (keep lookC 0 M) w' := by
  obtain ⟨cur, hr⟩ := h.row
  refine (least31 g cap M cur w B (Nat.le_trans h.hB h.hg) (Nat.le_trans h.hB h.below.size) h.ne hr h.all).mono ?_
  rintro e w' ⟨rfl, hr', hb⟩
  rw [least31_keep] at hr' ⊢
  exact ⟨rfl, h.step hr' (fun c hc => (mem_keep (f := lookC)).1 hc |>.1) (keep_ne (f := lookC) h.ne) hb⟩
theorem lst32 {B : Nat} {L : List Cd} {W : World} {g cap : Nat} {M : List Cd} {w : World} (h : LSt B L W g cap M w) : Calls Try.prog 20 #[.slice (some ⟨g, 0, none⟩) M.length cap, .func (.func 32) #[] #[]] w fun e w' => e = .returned (.slice (some ⟨g, 0, none⟩) (keep lookC 1 M).length cap) ∧ LSt B L W g cap (keep lookC 1 M) w' := by
  obtain ⟨cur, hr⟩ := h.row
  refine (least32 g cap M cur w B (Nat.le_trans h.hB h.hg) (Nat.le_trans h.hB h.below.size) h.ne hr h.all).mono ?_
  rintro e w' ⟨rfl, hr', hb⟩
  rw [least32_keep] at hr' ⊢
  exact ⟨rfl, h.step hr' (fun c hc => (mem_keep (f := lookC)).1 hc |>.1) (keep_ne (f := lookC) h.ne) hb⟩
theorem lst34 {B : Nat} {L : List Cd} {W : World} {g cap : Nat} {M : List Cd} {w : World} (h : LSt B L W g cap M w) : Calls Try.prog 20 #[.slice (some ⟨g, 0, none⟩) M.length cap, .func (.func 34) #[] #[]] w fun e w' => e = .returned (.slice (some ⟨g, 0, none⟩) (keep lookC 2 M).length cap) ∧ LSt B L W g cap (keep lookC 2 M) w' := by
  obtain ⟨cur, hr⟩ := h.row
  refine (least34 g cap M cur w B (Nat.le_trans h.hB h.hg) (Nat.le_trans h.hB h.below.size) h.ne hr h.all).mono ?_
  rintro e w' ⟨rfl, hr', hb⟩
  rw [least34_keep] at hr' ⊢
  exact ⟨rfl, h.step hr' (fun c hc => (mem_keep (f := lookC)).1 hc |>.1) (keep_ne (f := lookC) h.ne) hb⟩
theorem lst22 {B : Nat} {L : List Cd} {W : World} {g cap : Nat} {M : List Cd} {w : World} (h : LSt B L W g cap M w) : Calls Try.prog 20 #[.slice (some ⟨g, 0, none⟩) M.length cap, .func (.func 22) #[] #[]] w fun e w' => e = .returned (.slice (some ⟨g, 0, none⟩) (keep lookC 4 M).length cap) ∧ LSt B L W g cap (keep lookC 4 M) w' := by
  obtain ⟨cur, hr⟩ := h.row
  refine (least22 g cap M cur w B (Nat.le_trans h.hB h.hg) (Nat.le_trans h.hB h.below.size) h.ne hr h.all).mono ?_
  rintro e w' ⟨rfl, hr', hb⟩
  rw [least22_keep] at hr' ⊢
  exact ⟨rfl, h.step hr' (fun c hc => (mem_keep (f := lookC)).1 hc |>.1) (keep_ne (f := lookC) h.ne) hb⟩
theorem lst23 {B : Nat} {L : List Cd} {W : World} {g cap : Nat} {M : List Cd} {w : World} (h : LSt B L W g cap M w) : Calls Try.prog 20 #[.slice (some ⟨g, 0, none⟩) M.length cap, .func (.func 23) #[] #[]] w fun e w' => e = .returned (.slice (some ⟨g, 0, none⟩) (keep lookC 5 M).length cap) ∧ LSt B L W g cap (keep lookC 5 M) w' := by
  obtain ⟨cur, hr⟩ := h.row
  refine (least23 g cap M cur w B (Nat.le_trans h.hB h.hg) (Nat.le_trans h.hB h.below.size) h.ne hr h.all).mono ?_
  rintro e w' ⟨rfl, hr', hb⟩
  rw [least23_keep] at hr' ⊢
  exact ⟨rfl, h.step hr' (fun c hc => (mem_keep (f := lookC)).1 hc |>.1) (keep_ne (f := lookC) h.ne) hb⟩
theorem lstm {B : Nat} {L : List Cd} {W : World} {g cap : Nat} {M : List Cd} {w : World} (h : LSt B L W g cap M w) : Calls Try.prog 35 #[.slice (some ⟨g, 0, none⟩) M.length cap] w fun e w' => e = .returned (.slice (some ⟨g, 0, none⟩) (keep lookC 3 M).length cap) ∧ LSt B L W g cap (keep lookC 3 M) w' := by
  obtain ⟨cur, hr⟩ := h.row
  refine (meds g cap M cur w B (Nat.le_trans h.hB h.hg) (Nat.le_trans h.hB h.below.size) hr h.all).mono ?_
  rintro e w' ⟨rfl, hr', hb⟩
  rw [medsOf_keep] at hr' ⊢
  exact ⟨rfl, h.step hr' (fun c hc => (mem_keep (f := lookC)).1 hc |>.1) (keep_ne (f := lookC) h.ne) hb⟩
theorem mem_of_withAt {L : List Rt} {c : Cd} (h : c ∈ withAt L) : c.1 ∈ L := by
  unfold withAt at h
  obtain ⟨p, hp, rfl⟩ := List.mem_map.1 h
  exact (List.mem_zipIdx' hp).2 ▸ List.getElem_mem _

set_option maxHeartbeats 2000000 in
theorem left_some (b off cap n : Nat) (L : List Rt) (w : World) (B : Nat) (hL : L ≠ []) (hn : L.length = n) (hB : B ≤ w.heap.size) (hr : R40.Row w b off L) (hok : ∀ x ∈ L, RtOk w B x ∧ Small x) (h60 : n ≤ 60) :
    Calls Try.prog 21 #[.slice (some ⟨b, off, none⟩) n cap] w fun e w' => ∃ g cap', e = .returned (.slice (some ⟨g, 0, none⟩) (leftOf L).length cap') ∧ LSt B (withAt L) w g cap' (leftOf L) w' := by
  have HD := Lib.hid (And.intro hr (And.intro hok hn))
  have lb := hr.lt
  clear hr hok
  go_enter Try.func21, Try.ntmps21
  go_wp2_with fail
  go_loopw [3, 8] (fun v i wr => ∃ k : Nat, k ≤ n ∧ i = .int .i64 k ∧ R50.Own wr w.heap.size v (withAt (L.take k)) ∧ Below w.heap.size w wr) (fun _ i _ => n - (intOf i).toNat)
  case atStart => exact ⟨0, Nat.zero_le _, rfl, Rep.Own.nil _ _, Below.refl _ _⟩
  case round =>
    obtain ⟨k, hk, rfl, hown, hb⟩ := hrel
    obtain ⟨hr, hok, hn⟩ := HD.out
    have hsz := hb.size
    by_cases hlt : k < n
    · have hat := (hr.below hb).get k (by omega)
      have hlk := withAt_take L k (by omega)
      generalize hx : L.getD k default = x at *
      have c0 := hat 0 (by decide)
      have c1 := hat 1 (by decide)
      have c2 := hat 2 (by decide)
      have c3 := hat 3 (by decide)
      have c4 := hat 4 (by decide)
      have c5 := hat 5 (by decide)
      have c6 := hat 6 (by decide)
      have c7 := hat 7 (by decide)
      have c8 := hat 8 (by decide)
      have c9 := hat 9 (by decide)
      simp only [R40, Rt.cells, Nat.add_zero, List.getElem?_cons_zero, List.getElem?_cons_succ] at c0 c1 c2 c3 c4 c5 c6 c7 c8 c9
      have HK := Lib.hid (And.intro hlk (And.intro hown (And.intro hb (And.intro hn hx))))
      clear hlk hown hb hn hx hat hr hok
      go_wp2_with (at_builtin; refine halt ?_)
      refine Halted.go ?_
      have hlen : (withAt (L.take k)).length = k := by
        have := HK.out.2.2.2.1
        rw [withAt_length, List.length_take]; omega
      refine Rep.append_one T46 rfl _ _ rfl rfl ((HK.out.2.1.alloc _).alloc _) (x, (k : Int)) (wr.heap.size + 1) 1 rfl (hnewAt ?_) hlen (by unfold maxLen; omega) (by omega) ?_ ?_
      · simp
      · simp; omega
      intro v' w1 hown' hb1 _
      have HO := Lib.hid (And.intro hown' hb1)
      clear hown' hb1 hlen c0 c1 c2 c3 c4 c5 c6 c7 c8 c9
      go_wp2_with fail
      go_roundw
      case rel =>
        refine ⟨k + 1, by omega, by go_num, ?_, ?_⟩
        · rw [HK.out.1]; exact HO.out.1
        · exact ((HK.out.2.2.1.alloc hsz _).alloc (by simp; omega) _).trans HO.out.2
      case measure => simp [intOf]; omega
    · have hf : ¬ ((k : Int) < n) := by omega
      have hkn : L.take k = L := List.take_of_length_le (by omega)
      rw [hkn] at hown
      have hne : withAt L ≠ [] := fun h => hL (List.length_eq_zero_iff.1 (by rw [← withAt_length, h]; rfl))
      have hall : ∀ w', Below B w w' → AllOk w' B (withAt L) := fun w' hw' c hc => by
        have hm : c.1 ∈ L := mem_of_withAt hc
        exact ⟨(hok _ hm).1.below hw', (hok _ hm).2⟩
      rcases hown.cases with ⟨_, he⟩ | ⟨g, cap2, rfl, hg, hgl, h1, h2, -, -, cur, hblk, hcs⟩
      · exact absurd he hne
      obtain ⟨cur1, hr1, -⟩ := RowC.of_owns (base := w.heap.size) hown
      have H0 : LSt B (withAt L) w g cap2 (withAt L) wr := ⟨⟨cur1, hr1⟩, fun _ h => h, hne, hb, hg, fun c hc => hok _ (mem_of_withAt hc), hB⟩
      have S0 := Lib.hid H0
      clear H0 hr1 hne hb hown hkn hblk hcs hr hok hn
      go_wp2_with fail
      refine (lst31 S0.out).mono ?_
      rintro e w1 ⟨rfl, h1⟩
      have S1 := Lib.hid h1
      clear h1
      go_wp2_with fail
      refine (lst32 S1.out).mono ?_
      rintro e w2 ⟨rfl, h1⟩
      have S2 := Lib.hid h1
      clear h1
      go_wp2_with fail
      refine (lst34 S2.out).mono ?_
      rintro e w3 ⟨rfl, h1⟩
      have S3 := Lib.hid h1
      clear h1
      go_wp2_with fail
      refine (lstm S3.out).mono ?_
      rintro e w4 ⟨rfl, h1⟩
      have S4 := Lib.hid h1
      clear h1
      go_wp2_with fail
      go_ret
      have h4 := S4.out
      rw [show keep lookC 3 (keep lookC 2 (keep lookC 1 (keep lookC 0 (withAt L)))) = leftOf L from rfl] at h4 ⊢
      exact ⟨g, cap2, rfl, h4⟩
end Go.Proofs.Ytlgmoiilfigamaa
