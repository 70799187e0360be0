/- IpfixRecords. -/
import Derived.Test.YtjjhnnnpikfjpaaOd
namespace Go.Proofs.Ytjjhnnnpikfjpaa
open Go.RowKit

theorem szT_odd {t : Tm} (h : oddT t = true) : szT t = 0 := by unfold szT; rw [if_pos h]
theorem szT_even {w : World} {t : Tm} (hf : FdsOk w t.fs) (h : oddT t = false) : 1 ≤ szT t ∧ szT t ≤ 3000000 := by
  obtain ⟨-, -, h1, h2, h3⟩ := oddT_false h
  have e : szT t = szF t.fs.l := by unfold szT; rw [if_neg (by rw [h]; simp)]
  rw [e]
  have hl := hf.sl.len
  have h4 := szF_take t.fs.l h3 t.fs.l.length
  rw [List.take_length] at h4
  refine ⟨?_, by omega⟩
  cases hc : t.fs.l with
  | nil => rw [hc] at hl; simp at hl; omega
  | cons x r =>
    have := oddFd_false (h3 x (by rw [hc]; simp))
    unfold szF
    rw [List.map_cons, List.sum_cons]
    omega
set_option maxRecDepth 100000 in
set_option maxHeartbeats 4000000 in
theorem records_any (t : Tm) (w : World) (hf : FdsOk w t.fs) {oa : Option Addr} {n c : Nat} {l : List Nat} (hb : BA w oa n c l) (hby : Bytes l) : Calls Try.prog 5 #[t.v, .slice oa n c] w fun e w' => e = .returned (.bool true) ∧ Below w.heap.size w w' := by
  have hal := (Below.refl w.heap.size w).alloc (Nat.le_refl _) (.cells #[.int .i64 t.id, .slice t.fs.a t.fs.n t.fs.c] 41)
  have hb1 : TmS w.heap.size #[.int .i64 t.id, .slice t.fs.a t.fs.n t.fs.c] (w.alloc (.cells #[.int .i64 t.id, .slice t.fs.a t.fs.n t.fs.c] 41)) := hnew _ _
  have F0 := Lib.hid (And.intro hal (And.intro hb1 (And.intro (hf.keep hal) (hb.below hal))))
  have HBY := Lib.hid hby
  clear hal hb1 hf hb hby
  go_enter Try.func5, Try.ntmps5
  unfold Tm.v
  by_cases h100 : 100 < t.fs.n
  · have hil : ((100 : Int) < (t.fs.n : Int)) = True := by simp; omega
    obtain ⟨z0, z1⟩ := F0.out.2.1.cells
    go_wp2_with fail
    clear hil
    clear z0 z1
    generalize w.alloc (.cells #[.int .i64 t.id, .slice t.fs.a t.fs.n t.fs.c] 41) = W1 at *
    refine (lives_any _).mono ?_
    rintro e W3 ⟨rfl, hb3⟩
    have F1 := Lib.hid (And.intro (bcall F0.out.1 (Nat.le_refl _) hb3) (And.intro (F0.out.2.1.on hb3) (And.intro (F0.out.2.2.1.keep hb3) ((F0.out.2.2.2.below hb3)))))
    clear F0
    clear hb3
    go_wp2_with fail
    go_ret
    exact ⟨rfl, F1.out.1⟩
  have hil : ((100 : Int) < (t.fs.n : Int)) = False := by simp; omega
  by_cases h5000 : 5000 < n
  · have hil2 : ((5000 : Int) < (n : Int)) = True := by simp; omega
    obtain ⟨z0, z1⟩ := F0.out.2.1.cells
    go_wp2_with fail
    clear hil hil2
    clear z0 z1
    generalize w.alloc (.cells #[.int .i64 t.id, .slice t.fs.a t.fs.n t.fs.c] 41) = W1 at *
    refine (lives_any _).mono ?_
    rintro e W3 ⟨rfl, hb3⟩
    have F2 := Lib.hid (And.intro (bcall F0.out.1 (Nat.le_refl _) hb3) (And.intro (F0.out.2.1.on hb3) (And.intro (F0.out.2.2.1.keep hb3) ((F0.out.2.2.2.below hb3)))))
    clear F0
    clear hb3
    go_wp2_with fail
    go_ret
    exact ⟨rfl, F2.out.1⟩
  have hil2 : ((5000 : Int) < (n : Int)) = False := by simp; omega
  have HN := Lib.hid (show n ≤ 5000 by omega)
  obtain ⟨z0, z1⟩ := F0.out.2.1.cells
  go_wp2_with fail
  clear hil hil2 h5000 h100
  clear z0 z1
  generalize w.alloc (.cells #[.int .i64 t.id, .slice t.fs.a t.fs.n t.fs.c] 41) = W1 at *
  rcases hodd : oddT t with _ | _
  · have HO := Lib.hid hodd
    have HZ := Lib.hid (szT_even F0.out.2.2.1 hodd)
    clear hodd
    refine (recs_ok t W1 F0.out.2.2.1 HZ.out F0.out.2.2.2 HBY.out HN.out).mono ?_
    rintro e W2 ⟨⟨v2, vs2, rfl, ho2, hp2⟩, hb2⟩
    obtain ⟨oa2, c2, rfl, -, -, hs2, -⟩ := ho2.sl
    obtain ⟨k2, hk2⟩ : ∃ k, vs2.length = k := ⟨_, rfl⟩
    rw [hk2] at hs2
    simp only [hk2]
    have F3 := Lib.hid (And.intro (bcall F0.out.1 (Nat.le_refl _) hb2) (And.intro (F0.out.2.1.on hb2) (And.intro (F0.out.2.2.1.keep hb2) (And.intro (F0.out.2.2.2.below hb2) (And.intro hs2 (hp2))))))
    clear F0
    clear hb2 hs2 hp2 ho2 hk2
    go_wp2_with fail
    refine wp_region_heldP (TmS w.heap.size #[.int .i64 t.id, .slice t.fs.a t.fs.n t.fs.c]) (by kernel_rfl) ?_
    have hd := (Below.refl W2.heap.size W2).drew
    have F4 := Lib.hid (And.intro (bcall F3.out.1 (Nat.le_refl _) hd) (And.intro (F3.out.2.1.on hd) (And.intro (F3.out.2.2.1.keep hd) (And.intro (F3.out.2.2.2.1.below hd) (And.intro (F3.out.2.2.2.2.1.keep hd) ((PSS.keep F3.out.2.2.2.2.2 (.of_below hd))))))))
    clear F3
    clear hd
    generalize W2.drew = W4 at *
    refine held_one 0 (by kernel_rfl) ?_
    simp only [pick, List.getD_cons_zero]
    go_wp2_with fail
    refine (lives_any _).mono ?_
    rintro e W5 ⟨rfl, hb5⟩
    have F5 := Lib.hid (And.intro (bcall F4.out.1 (Nat.le_refl _) hb5) (And.intro (F4.out.2.1.on hb5) (And.intro (F4.out.2.2.1.keep hb5) (And.intro (F4.out.2.2.2.1.below hb5) (And.intro (F4.out.2.2.2.2.1.keep hb5) ((PSS.keep F4.out.2.2.2.2.2 (.of_below hb5))))))))
    clear F4
    clear hb5
    go_wp2_with fail
    refine ⟨F5.out.2.1, ?_⟩
    refine held_reads [1, 2, 3, 5] (g := 4) rfl (by kernel_rfl) F5.out.2.1 (fun _ _ d _ _ h => by cases d <;> exact h) ?_
    simp only [pick, List.getD_cons_zero, List.getD_cons_succ]
    iterate 4 ((with_reducible refine wpRead_step (fun K hK => ?_)); go_simp; first | ((with_reducible refine hK _ ?_); clear hK K) | (apply Exists.intro; (with_reducible refine ⟨fun w' hw' => ?_, hK _ ?_⟩); (obtain ⟨f0, f1⟩ := hw'.cells; go_simp; first | exact rfl | exact ⟨rfl, rfl⟩); clear hK K))
    with_reducible refine wpRead_nil ?_
    refine held_one 4 (by kernel_rfl) ?_
    simp only [pick, List.getD_cons_zero, List.getD_cons_succ]
    go_wp2_with fail
    refine (size_tm t W5 F5.out.2.2.1).mono ?_
    rintro e W6 ⟨rfl, hb6⟩
    have F6 := Lib.hid (And.intro (bcall F5.out.1 (Nat.le_refl _) hb6) (And.intro (F5.out.2.1.on hb6) (And.intro (F5.out.2.2.1.keep hb6) (And.intro (F5.out.2.2.2.1.below hb6) (And.intro (F5.out.2.2.2.2.1.keep hb6) ((PSS.keep F5.out.2.2.2.2.2 (.of_below hb6))))))))
    clear F5
    clear hb6
    go_wp2_with fail
    refine ⟨F6.out.2.1, ?_⟩
    refine held_one 6 (by kernel_rfl) ?_
    simp only [pick, List.getD_cons_zero, List.getD_cons_succ]
    go_wp2_with fail
    refine (rsize_tm t W6 F6.out.2.2.1).mono ?_
    rintro e W7 ⟨rfl, hb7⟩
    have F7 := Lib.hid (And.intro (bcall F6.out.1 (Nat.le_refl _) hb7) (And.intro (F6.out.2.1.on hb7) (And.intro (F6.out.2.2.1.keep hb7) (And.intro (F6.out.2.2.2.1.below hb7) (And.intro (F6.out.2.2.2.2.1.keep hb7) ((PSS.keep F6.out.2.2.2.2.2 (.of_below hb7))))))))
    clear F6
    clear hb7
    go_wp2_with fail
    refine ⟨F7.out.2.1, ?_⟩
    refine held_one 7 (by kernel_rfl) ?_
    simp only [pick, List.getD_cons_zero, List.getD_cons_succ]
    go_wp2_with fail
    refine ⟨F7.out.2.1, ?_⟩
    refine held_one 8 (by kernel_rfl) ?_
    simp only [pick, List.getD_cons_zero, List.getD_cons_succ]
    go_wp2_with fail
    refine ⟨F7.out.2.1, ?_⟩
    refine wpAnyH_done (by kernel_rfl) ?_ _
    obtain ⟨z0, z1⟩ := F7.out.2.1.cells
    go_wp2_with fail
    clear z0 z1
    have hone := one_tm t W7 F7.out.2.2.1
    rw [HO.out] at hone
    have HC := Lib.hid hone
    clear hone
    refine (HC.out).mono ?_
    rintro e W8 ⟨rfl, hb8⟩
    have F8 := Lib.hid (And.intro (bcall F7.out.1 (Nat.le_refl _) hb8) (And.intro (F7.out.2.1.on hb8) (And.intro (F7.out.2.2.1.keep hb8) (And.intro (F7.out.2.2.2.1.below hb8) (And.intro (F7.out.2.2.2.2.1.keep hb8) ((PSS.keep F7.out.2.2.2.2.2 (.of_below hb8))))))))
    clear F7
    clear hb8 HC
    obtain ⟨z0, z1⟩ := F8.out.2.1.cells
    go_wp2_with fail
    clear z0 z1
    refine (rrecs_any t W8 F8.out.2.2.1 HO.out HZ.out F8.out.2.2.2.1 HBY.out HN.out).mono ?_
    rintro e W9 ⟨⟨v9, vs9, rfl, ho9, hp9⟩, hb9⟩
    obtain ⟨oa9, c9, rfl, -, -, hs9, -⟩ := ho9.sl
    obtain ⟨k9, hk9⟩ : ∃ k, vs9.length = k := ⟨_, rfl⟩
    rw [hk9] at hs9
    simp only [hk9]
    have F9 := Lib.hid (And.intro (bcall F8.out.1 (Nat.le_refl _) hb9) (And.intro (F8.out.2.1.on hb9) (And.intro (F8.out.2.2.1.keep hb9) (And.intro (F8.out.2.2.2.1.below hb9) (And.intro (F8.out.2.2.2.2.1.keep hb9) (And.intro (PSS.keep F8.out.2.2.2.2.2 (.of_below hb9)) (And.intro hs9 (hp9))))))))
    clear F8
    clear hb9 hs9 hp9 ho9 hk9
    go_wp2_with fail
    refine (same_pcs F9.out.2.2.2.2.1 F9.out.2.2.2.2.2.1 F9.out.2.2.2.2.2.2.1 F9.out.2.2.2.2.2.2.2).mono ?_
    rintro e Wa ⟨rfl, hb10⟩
    have F10 := Lib.hid (And.intro (bcall F9.out.1 (Nat.le_refl _) hb10) (And.intro (F9.out.2.1.on hb10) (And.intro (F9.out.2.2.1.keep hb10) (And.intro (F9.out.2.2.2.1.below hb10) (And.intro (F9.out.2.2.2.2.1.keep hb10) (And.intro (PSS.keep F9.out.2.2.2.2.2.1 (.of_below hb10)) (And.intro (F9.out.2.2.2.2.2.2.1.keep hb10) ((PSS.keep F9.out.2.2.2.2.2.2.2 (.of_below hb10))))))))))
    clear F9
    clear hb10
    go_wp2_with fail
    go_ret
    exact ⟨rfl, F10.out.1⟩
  · have HO := Lib.hid hodd
    clear hodd
    refine (recs_bad t W1 F0.out.2.2.1 (szT_odd HO.out) oa n c).mono ?_
    rintro e W2 ⟨rfl, hb2⟩
    have F11 := Lib.hid (And.intro (bcall F0.out.1 (Nat.le_refl _) hb2) (And.intro (F0.out.2.1.on hb2) (And.intro (F0.out.2.2.1.keep hb2) ((F0.out.2.2.2.below hb2)))))
    clear F0
    clear hb2
    go_wp2_with fail
    refine wp_region_heldP (TmS w.heap.size #[.int .i64 t.id, .slice t.fs.a t.fs.n t.fs.c]) (by kernel_rfl) ?_
    have hd := (Below.refl W2.heap.size W2).drew
    have F12 := Lib.hid (And.intro (bcall F11.out.1 (Nat.le_refl _) hd) (And.intro (F11.out.2.1.on hd) (And.intro (F11.out.2.2.1.keep hd) ((F11.out.2.2.2.below hd)))))
    clear F11
    clear hd
    generalize W2.drew = W4 at *
    refine held_one 0 (by kernel_rfl) ?_
    simp only [pick, List.getD_cons_zero]
    go_wp2_with fail
    refine (lives_any _).mono ?_
    rintro e W5 ⟨rfl, hb5⟩
    have F13 := Lib.hid (And.intro (bcall F12.out.1 (Nat.le_refl _) hb5) (And.intro (F12.out.2.1.on hb5) (And.intro (F12.out.2.2.1.keep hb5) ((F12.out.2.2.2.below hb5)))))
    clear F12
    clear hb5
    go_wp2_with fail
    refine ⟨F13.out.2.1, ?_⟩
    refine held_reads [1, 2, 3, 5] (g := 4) rfl (by kernel_rfl) F13.out.2.1 (fun _ _ d _ _ h => by cases d <;> exact h) ?_
    simp only [pick, List.getD_cons_zero, List.getD_cons_succ]
    iterate 4 ((with_reducible refine wpRead_step (fun K hK => ?_)); go_simp; first | ((with_reducible refine hK _ ?_); clear hK K) | (apply Exists.intro; (with_reducible refine ⟨fun w' hw' => ?_, hK _ ?_⟩); (obtain ⟨f0, f1⟩ := hw'.cells; go_simp; first | exact rfl | exact ⟨rfl, rfl⟩); clear hK K))
    with_reducible refine wpRead_nil ?_
    refine held_one 4 (by kernel_rfl) ?_
    simp only [pick, List.getD_cons_zero, List.getD_cons_succ]
    go_wp2_with fail
    refine (size_tm t W5 F13.out.2.2.1).mono ?_
    rintro e W6 ⟨rfl, hb6⟩
    have F14 := Lib.hid (And.intro (bcall F13.out.1 (Nat.le_refl _) hb6) (And.intro (F13.out.2.1.on hb6) (And.intro (F13.out.2.2.1.keep hb6) ((F13.out.2.2.2.below hb6)))))
    clear F13
    clear hb6
    go_wp2_with fail
    refine ⟨F14.out.2.1, ?_⟩
    refine held_one 6 (by kernel_rfl) ?_
    simp only [pick, List.getD_cons_zero, List.getD_cons_succ]
    go_wp2_with fail
    refine (rsize_tm t W6 F14.out.2.2.1).mono ?_
    rintro e W7 ⟨rfl, hb7⟩
    have F15 := Lib.hid (And.intro (bcall F14.out.1 (Nat.le_refl _) hb7) (And.intro (F14.out.2.1.on hb7) (And.intro (F14.out.2.2.1.keep hb7) ((F14.out.2.2.2.below hb7)))))
    clear F14
    clear hb7
    go_wp2_with fail
    refine ⟨F15.out.2.1, ?_⟩
    refine held_one 7 (by kernel_rfl) ?_
    simp only [pick, List.getD_cons_zero, List.getD_cons_succ]
    go_wp2_with fail
    refine ⟨F15.out.2.1, ?_⟩
    refine held_one 8 (by kernel_rfl) ?_
    simp only [pick, List.getD_cons_zero, List.getD_cons_succ]
    go_wp2_with fail
    refine ⟨F15.out.2.1, ?_⟩
    refine wpAnyH_done (by kernel_rfl) ?_ _
    obtain ⟨z0, z1⟩ := F15.out.2.1.cells
    go_wp2_with fail
    clear z0 z1
    have hone := one_tm t W7 F15.out.2.2.1
    rw [HO.out] at hone
    have HC := Lib.hid hone
    clear hone
    refine (HC.out).mono ?_
    rintro e W8 ⟨rfl, hb8⟩
    have F16 := Lib.hid (And.intro (bcall F15.out.1 (Nat.le_refl _) hb8) (And.intro (F15.out.2.1.on hb8) (And.intro (F15.out.2.2.1.keep hb8) ((F15.out.2.2.2.below hb8)))))
    clear F15
    clear hb8 HC
    go_wp2_with fail
    go_ret
    exact ⟨rfl, F16.out.1⟩
end Go.Proofs.Ytjjhnnnpikfjpaa
