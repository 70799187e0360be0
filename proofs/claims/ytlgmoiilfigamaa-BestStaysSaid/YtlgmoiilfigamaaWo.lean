/- cut: the reference's places of those that are left. -/
import Derived.Test.YtlgmoiilfigamaaWn
namespace Go.Proofs.Ytlgmoiilfigamaa
open Go.RowKit

theorem worse_any (s : Nat) (hs : s < 6) (x y : Rt) (w : World) (B : Nat) (hB : B ≤ w.heap.size) (hx : RtOk w B x) (hsx : Small x) (hy : RtOk w B y) (hsy : Small y) :
    Calls Try.prog 36 #[.int .i64 (s : Int), x.val, y.val] w fun e w' => e = .returned (.bool (worse s (lookOf x) (lookOf y))) ∧ Below w.heap.size w w' := by
  match s, hs with
  | 0, _ => exact worse0 x y w B hB hx hsx hy hsy
  | 1, _ => exact worse1 x y w B hB hx hsx hy hsy
  | 2, _ => exact worse2 x y w B hB hx hsx hy hsy
  | 3, _ => exact worse3 x y w B hB hx hsx hy hsy
  | 4, _ => exact worse4 x y w B hB hx hsx hy hsy
  | 5, _ => exact worse5 x y w B hB hx hsx hy hsy
def R36 : Rep Nat := ⟨3, 1, by decide, fun n => [.int .i64 (n : Int)], fun _ => rfl, fun _ => rfl⟩
theorem T36 : Rep.Ty Try.prog 36 R36 8 := Rep.Ty.mk' Try.underlying36 (z := .int .i64 0) (by kernel_rfl) rfl
def lookI (L : List Rt) (i : Nat) : Look := lookOf (L.getD i default)
def cutI (L : List Rt) (s : Nat) : List Nat := cut (lookI L) s (List.range L.length)
theorem cutI_lt {L : List Rt} {s i : Nat} (h : i ∈ cutI L s) : i < L.length := by simpa using (cut_sub (f := lookI L) (List.range L.length) s).subset h
theorem cutI_length (L : List Rt) (s : Nat) : (cutI L s).length ≤ L.length := by unfold cutI; simpa using (cut_sub (f := lookI L) (List.range L.length) s).length_le
theorem getD_mem {α : Type} [Inhabited α] {M : List α} {i : Nat} (h : i < M.length) : M.getD i default ∈ M := by
  rw [List.getD_eq_getElem?_getD, List.getElem?_eq_getElem h]; exact List.getElem_mem _
theorem all_take_succ {α : Type} [Inhabited α] (M : List α) (p : α → Bool) (k : Nat) (h : k < M.length) : (M.take (k + 1)).all p = ((M.take k).all p && p (M.getD k default)) := by
  rw [List.take_succ_eq_append_getElem h, List.all_append]
  simp [List.getD_eq_getElem?_getD, h]
theorem filter_take_succ {α : Type} [Inhabited α] (M : List α) (p : α → Bool) (k : Nat) (h : k < M.length) : (M.take (k + 1)).filter p = (M.take k).filter p ++ (if p (M.getD k default) then [M.getD k default] else []) := by
  rw [List.take_succ_eq_append_getElem h, List.filter_append]
  have : M.getD k default = M[k] := by simp [List.getD_eq_getElem?_getD, h]
  rw [this]
  by_cases hp : p M[k] = true <;> simp [hp]

set_option maxHeartbeats 4000000 in
theorem cut_some (b off c n steps : Nat) (L : List Rt) (w : World) (B : Nat) (hL : L ≠ []) (hn : L.length = n) (hr : R40.Row w b off L) (hi : Ins w B L) (h6 : steps ≤ 6) :
    Calls Try.prog 24 #[.slice (some ⟨b, off, none⟩) n c, .int .i64 (steps : Int)] w fun e w' => ∃ v, e = .returned v ∧ R36.Own w' w.heap.size v (cutI L steps) ∧ Below w.heap.size w w' := by
  have HD := Lib.hid (And.intro hr (And.intro hi (And.intro hn hL)))
  have h60 : n ≤ 60 := by rw [← hn]; exact hi.h60
  have lb := hr.lt
  clear hr hi hn hL
  go_enter Try.func24, Try.ntmps24
  go_wp2_with fail
  go_loopw [5, 6] (fun v i wr => ∃ k : Nat, k ≤ n ∧ i = .int .i64 k ∧ R36.Own wr w.heap.size v (List.range k) ∧ Below w.heap.size w wr) (fun _ i _ => n - (intOf i).toNat)
  case atStart => exact ⟨0, Nat.zero_le _, rfl, Rep.Own.nil _ _, Below.refl _ _⟩
  case round =>
    obtain ⟨k, hk, rfl, hown, hb⟩ := hrel
    have hsz := hb.size
    by_cases hlt : k < n
    · have HK := Lib.hid (And.intro hown hb)
      clear hown hb
      go_wp2_with (at_builtin; refine halt ?_)
      refine Halted.go ?_
      refine Rep.append_one T36 rfl _ _ rfl rfl (HK.out.1.alloc _) k wr.heap.size 1 rfl (hnew _ _) (List.length_range) (by unfold maxLen; omega) (by omega) (by simp; omega) ?_
      intro v' w1 hown' hb1 _
      have HO := Lib.hid (And.intro hown' hb1)
      clear hown' hb1
      go_wp2_with fail
      go_roundw
      case rel => exact ⟨k + 1, by omega, by go_num, by rw [List.range_succ]; exact HO.out.1, (HK.out.2.alloc hsz _).trans HO.out.2⟩
      case measure => simp [intOf]; omega
    · have hf : ¬ ((k : Int) < n) := by omega
      have hkn : k = n := by omega
      subst hkn
      have HK := Lib.hid (And.intro hown hb)
      clear hown hb hlt
      go_wp2_with fail
      obtain ⟨wx, hwx⟩ : ∃ wx, wx = wr := ⟨_, rfl⟩
      go_loopw [5, 7] (fun v i wr => ∃ s : Nat, s ≤ steps ∧ i = .int .i64 s ∧ R36.Own wr w.heap.size v (cutI L s) ∧ Below w.heap.size w wr) (fun _ i _ => steps - (intOf i).toNat)
      case atStart =>
        refine ⟨0, Nat.zero_le _, rfl, ?_, HK.out.2⟩
        have := HK.out.1
        unfold cutI
        rw [cut_zero, HD.out.2.2.1]
        exact this
      case round =>
        obtain ⟨s, hs, rfl, hown, hb⟩ := hrel
        have hsz := hb.size
        by_cases hlt : s < steps
        · obtain ⟨hr, hi, hn, hL⟩ := HD.out
          have hne : cutI L s ≠ [] := cut_ne (f := lookI L) (by intro h; exact hL (List.length_eq_zero_iff.1 (by rw [← List.length_range (n := L.length), h]; rfl))) s
          rcases hown.cases with ⟨_, he⟩ | ⟨g, cap, rfl, hg, hgl, h1, h2, hrow, -⟩
          · exact absurd he hne
          have hml := cutI_length L s
          obtain ⟨m, hm⟩ : ∃ m, m = (cutI L s).length := ⟨_, rfl⟩
          rw [← hm] at hml h1 ⊢
          obtain ⟨M, hM⟩ : ∃ M, M = cutI L s := ⟨_, rfl⟩
          rw [← hM] at hm hrow
          have hMlt : ∀ i ∈ M, i < k := fun i h => by rw [hM] at h; have := cutI_lt h; omega
          have hnext : keep (lookI L) s M = cutI L (s + 1) := by rw [hM]; unfold cutI; rw [cut_succ]
          have HS := Lib.hid (And.intro hown (And.intro hb (And.intro hrow (And.intro hm (And.intro hMlt hnext)))))
          have HL := Lib.hid (And.intro hr (And.intro hi hn))
          have hm60 : m ≤ 60 := by omega
          clear hown hb hrow hm hM hMlt hnext hr hi hn hL hne
          go_wp2_with fail
          obtain ⟨w2, rfl⟩ : ∃ w2 : World, w2 = wr := ⟨_, rfl⟩
          go_loopw [8, 9, 10, 11] (fun nv iv _ _ wr3 => ∃ i : Nat, i ≤ m ∧ iv = .int .i64 i ∧ R36.Own wr3 w2.heap.size nv ((M.take i).filter fun p => M.all fun q => !worse s (lookI L p) (lookI L q)) ∧ Below w2.heap.size w2 wr3) (fun _ iv _ _ _ => m - (intOf iv).toNat)
          case atStart => exact ⟨0, Nat.zero_le _, rfl, Rep.Own.nil _ _, Below.refl _ _⟩
          case round =>
            obtain ⟨i, him, rfl, hown, hb⟩ := hrel
            have hsz3 := hb.size
            by_cases hlt3 : i < m
            · have HK3 := Lib.hid (And.intro hown hb)
              clear hown hb
              go_wp2_with fail
              obtain ⟨w3, rfl⟩ : ∃ w3 : World, w3 = wr := ⟨_, rfl⟩
              obtain ⟨p, hp⟩ : ∃ p, p = M.getD i default := ⟨_, rfl⟩
              have hpm : p ∈ M := by rw [hp]; exact getD_mem (by rw [← HS.out.2.2.2.1]; exact hlt3)
              have hpk : p < k := HS.out.2.2.2.2.1 p hpm
              obtain ⟨x, hx⟩ : ∃ x, x = L.getD p default := ⟨_, rfl⟩
              have HP := Lib.hid (And.intro hp hx)
              clear hp hpm hx
              go_loopw [10, 11] (fun okv qv wr4 => ∃ q : Nat, q ≤ m ∧ qv = .int .i64 q ∧ okv = .bool ((M.take q).all fun q => !worse s (lookI L p) (lookI L q)) ∧ Below w3.heap.size w3 wr4) (fun _ qv _ => m - (intOf qv).toNat)
              case atStart => exact ⟨0, Nat.zero_le _, rfl, rfl, Below.refl _ _⟩
              case round =>
                obtain ⟨q, hqm, rfl, rfl, hb4⟩ := hrel
                have hsz4 := hb4.size
                by_cases hlt4 : q < m
                · obtain ⟨r, hrq⟩ : ∃ r, r = M.getD q default := ⟨_, rfl⟩
                  have hrm : r ∈ M := by rw [hrq]; exact getD_mem (by rw [← HS.out.2.2.2.1]; exact hlt4)
                  have hrk : r < k := HS.out.2.2.2.2.1 r hrm
                  obtain ⟨y, hy⟩ : ∃ y, y = L.getD r default := ⟨_, rfl⟩
                  have hb24 : Below w2.heap.size w2 wr := HK3.out.2.trans (hb4.mono hsz3)
                  have hbw : Below w.heap.size w wr := HS.out.2.1.trans (hb24.mono hsz)
                  have hrow4 := HS.out.2.2.1.below hb24
                  have hLr := HL.out.1.below hbw
                  have e0 := hrow4.get i (by rw [← HS.out.2.2.2.1]; exact hlt3) 0 (by decide)
                  have f0 := hrow4.get q (by rw [← HS.out.2.2.2.1]; exact hlt4) 0 (by decide)
                  rw [← HP.out.1] at e0
                  rw [← hrq] at f0
                  simp only [R36, Nat.mul_one, Nat.zero_add, Nat.add_zero, List.getElem?_cons_zero] at e0 f0
                  have hatx := hLr.get p (by rw [HL.out.2.2]; exact hpk)
                  have haty := hLr.get r (by rw [HL.out.2.2]; exact hrk)
                  rw [← HP.out.2] at hatx
                  rw [← hy] at haty
                  have c0 := hatx 0 (by decide)
                  have c1 := hatx 1 (by decide)
                  have c2 := hatx 2 (by decide)
                  have c3 := hatx 3 (by decide)
                  have c4 := hatx 4 (by decide)
                  have c5 := hatx 5 (by decide)
                  have c6 := hatx 6 (by decide)
                  have c7 := hatx 7 (by decide)
                  have c8 := hatx 8 (by decide)
                  have c9 := hatx 9 (by decide)
                  simp only [R40, Rt.cells, Nat.add_zero, List.getElem?_cons_zero, List.getElem?_cons_succ] at c0 c1 c2 c3 c4 c5 c6 c7 c8 c9
                  have d0 := haty 0 (by decide)
                  have d1 := haty 1 (by decide)
                  have d2 := haty 2 (by decide)
                  have d3 := haty 3 (by decide)
                  have d4 := haty 4 (by decide)
                  have d5 := haty 5 (by decide)
                  have d6 := haty 6 (by decide)
                  have d7 := haty 7 (by decide)
                  have d8 := haty 8 (by decide)
                  have d9 := haty 9 (by decide)
                  simp only [R40, Rt.cells, Nat.add_zero, List.getElem?_cons_zero, List.getElem?_cons_succ] at d0 d1 d2 d3 d4 d5 d6 d7 d8 d9
                  have hxm : x ∈ L := by rw [HP.out.2]; exact getD_mem (by rw [HL.out.2.2]; exact hpk)
                  have hym : y ∈ L := by rw [hy]; exact getD_mem (by rw [HL.out.2.2]; exact hrk)
                  have hin := HL.out.2.1.below (hbw.drew.mono HL.out.2.1.hB)
                  have HW := Lib.hid (worse_any s (by omega) x y wr.drew B hin.hB (hin.ok x hxm).1 (hin.ok x hxm).2 (hin.ok y hym).1 (hin.ok y hym).2)
                  unfold Rt.val at HW
                  have hts := all_take_succ M (fun q => !worse s (lookI L p) (lookI L q)) q (by rw [← HS.out.2.2.2.1]; exact hlt4)
                  have HQ := Lib.hid (And.intro hb4 (And.intro hts (And.intro hrq hy)))
                  clear hb4 hts hrq hy hin hxm hym hatx haty hLr hrow4 hbw hb24 hrm
                  go_wp2_with fail
                  refine wp_region_quiet_tail (fun w' => w' = wr.drew) 15 (by kernel_rfl) (by kernel_rfl) rfl ?_
                  simp only [List.take_succ_cons, List.take_zero, List.drop_succ_cons, List.drop_zero]
                  iterate 15 (refine wpQuiet_step (fun K hK => ?_); go_simp; refine hK _ ?_; clear hK K)
                  refine wpQuiet_nil ?_
                  rintro _ rfl
                  clear e0 f0 c0 c1 c2 c3 c4 c5 c6 c7 c8 c9 d0 d1 d2 d3 d4 d5 d6 d7 d8 d9
                  go_wp2_with fail
                  refine (HW.out).mono ?_
                  rintro e w5 ⟨rfl, hb5⟩
                  cases hwv : worse s (lookOf x) (lookOf y)
                  all_goals
                    have HV := Lib.hid (And.intro hwv hb5)
                    clear hwv hb5
                    go_wp2_with fail
                    go_roundw
                    case rel =>
                      refine ⟨q + 1, by omega, by go_num, ?_, HQ.out.1.trans ((show Below wr.heap.size wr w5 from undrew HV.out.2).mono hsz4)⟩
                      rw [HQ.out.2.1]
                      unfold lookI at *
                      rw [← HP.out.2, ← HQ.out.2.2.1, ← HQ.out.2.2.2, HV.out.1]
                      simp
                    case measure => simp [intOf]; omega
                · have hf : ¬ ((q : Int) < m) := by omega
                  have hqm' : M.take q = M := List.take_of_length_le (by rw [← HS.out.2.2.2.1]; omega)
                  rw [hqm']
                  have hb24 : Below w2.heap.size w2 wr := HK3.out.2.trans (hb4.mono hsz3)
                  have hrow4 := HS.out.2.2.1.below hb24
                  have e0 := hrow4.get i (by rw [← HS.out.2.2.2.1]; exact hlt3) 0 (by decide)
                  rw [← HP.out.1] at e0
                  simp only [R36, Nat.mul_one, Nat.zero_add, Nat.add_zero, List.getElem?_cons_zero] at e0
                  have hfs := filter_take_succ M (fun p => M.all fun q => !worse s (lookI L p) (lookI L q)) i (by rw [← HS.out.2.2.2.1]; exact hlt3)
                  rw [← HP.out.1] at hfs
                  have hfl : ((M.take i).filter fun p => M.all fun q => !worse s (lookI L p) (lookI L q)).length ≤ 60 := by
                    refine Nat.le_trans (List.length_filter_le _ _) ?_
                    rw [List.length_take]; omega
                  cases hall : M.all fun q => !worse s (lookI L p) (lookI L q) with
                  | true =>
                    rw [hall, if_pos rfl] at hfs
                    have HB4 := Lib.hid (And.intro hb4 (And.intro hb24 (And.intro hfs hfl)))
                    have hsz24 := hb24.size
                    clear hb4 hqm' hrow4 hb24 hfs hfl hall
                    go_wp2_with (at_builtin; refine halt ?_)
                    refine Halted.go ?_
                    refine Rep.append_one T36 rfl _ _ rfl rfl ((HK3.out.1.below HB4.out.1).alloc _) p wr.heap.size 1 rfl (hnew _ _) rfl (by have := HB4.out.2.2.2; unfold maxLen; omega) (by have := HB4.out.2.2.2; omega) (by simp; omega) ?_
                    intro v' w6 hown' hb6 _
                    have HO := Lib.hid (And.intro hown' hb6)
                    clear hown' hb6 e0
                    go_wp2_with fail
                    go_roundw
                    case rel =>
                      refine ⟨i + 1, by omega, by go_num, ?_, (HB4.out.2.1.alloc hsz24 _).trans HO.out.2⟩
                      rw [HB4.out.2.2.1]; exact HO.out.1
                    case measure => simp [intOf]; omega
                  | false =>
                    rw [hall, if_neg (by simp), List.append_nil] at hfs
                    have HB4 := Lib.hid (And.intro hb4 (And.intro hb24 hfs))
                    clear hb4 hqm' hrow4 hb24 hfs hfl hall e0
                    go_wp2_with fail
                    go_roundw
                    case rel =>
                      refine ⟨i + 1, by omega, by go_num, ?_, HB4.out.2.1⟩
                      rw [HB4.out.2.2]; exact HK3.out.1.below HB4.out.1
                    case measure => simp [intOf]; omega
            · have hf : ¬ ((i : Int) < m) := by omega
              have hmi : M.take i = M := List.take_of_length_le (by rw [← HS.out.2.2.2.1]; omega)
              rw [hmi] at hown
              have HF := Lib.hid (And.intro hown hb)
              clear hown hb hmi
              go_wp2_with fail
              go_roundw
              case rel =>
                refine ⟨s + 1, by omega, by go_num, ?_, HS.out.2.1.trans (HF.out.2.mono hsz)⟩
                rw [← HS.out.2.2.2.2.2]
                exact HF.out.1.mono hsz
              case measure => simp [intOf]; omega
        · have hf : ¬ ((s : Int) < steps) := by omega
          obtain rfl : s = steps := by omega
          have HF := Lib.hid (And.intro hown hb)
          clear hown hb hlt
          go_wp2_with fail
          go_ret
          exact ⟨_, rfl, HF.out.1, HF.out.2⟩
end Go.Proofs.Ytlgmoiilfigamaa
