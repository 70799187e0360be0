/- hop.All: walked. -/
import Derived.Test.YtlkbaplfffbmkaaBb
import Derived.Test.YtlkbaplfffbmkaaAc
namespace Go.Proofs.Ytlkbaplfffbmkaa
open Go.RowKit

theorem MR.Ran.len {κ : Type} {l done : List (MR.Ent κ)} {seen : Array Nat} (h : MR.Ran l seen done) (hb : (l.map (·.2.2)).Nodup) : done.length ≤ l.length := by
  classical
  have := (List.perm_ext_iff_of_nodup (MR.nodup_of_map h.nodup) ((MR.nodup_of_map hb).sublist (List.filter_sublist (p := fun e => decide (e ∈ done))))).2 (fun e => by simp; exact h.sub e)
  rw [this.length_eq]; exact List.length_filter_le _ _
def lenV : Value → Nat
  | .slice _ n _ => n
  | _ => 0
theorem Own_lenV {α : Type} [Inhabited α] {R : Rep α} {w : World} {base : Nat} {v : Value} {L : List α} (h : R.Own w base v L) : lenV v = L.length := by
  rcases h.cases with ⟨rfl, rfl⟩ | ⟨g, cap, rfl, -⟩ <;> rfl
theorem all_nil (w : World) : Calls Try.prog 19 #[.pointer none] w fun e w' => e = .returned (.slice none 0 0) ∧ w' = w := by
  go_enter Try.func19, Try.ntmps19
  go_wp2_with fail
  go_ret
  exact ⟨rfl, rfl⟩
theorem enters_cl : Go.Proofs.Enters Try.prog 46 := Go.Proofs.enters_of Try.func46 (by decide) rfl
set_option maxRecDepth 100000 in
set_option maxHeartbeats 2000000 in
theorem all_any {w : World} {h : Nat} {l : List If} (H : HopsAt w h (hdOf l)) (hg : Good l) : Calls Try.prog 19 #[.pointer (some ⟨h, 0, none⟩)] w fun e w' => ∃ v, e = .returned v ∧ RIf.Own w' w.heap.size v (sortI l) ∧ Below w.heap.size w w' := by
  obtain ⟨⟨bm, clk, es, b, h1, h2, h3, h4⟩, hw⟩ := H
  obtain ⟨he1, hpm⟩ := ents_are hg h2 h3
  have hel : es.length = l.length := by rw [← hpm.length_eq, List.length_map]
  have hle : es.length ≤ 256 := hel ▸ hg.len
  have hrg := MR.run_range IN h2 Try.underlying76
  have c0 : w.cell? ⟨h, 0, none⟩ = some (.map (some bm)) := cell_of h1 rfl
  have hbm := lt_of_blk h2.blk
  have h2' : MR.MapAt IN (w.alloc (.mapIter (some bm) clk #[] clk)) bm es clk := h2.blk_iff _ (Below.heap_alloc w _ _ hbm)
  have hal := (Below.refl w.heap.size w).alloc (Nat.le_refl _) (.mapIter (some bm) clk #[] clk)
  have hit : (w.alloc (.mapIter (some bm) clk #[] clk)).heap[w.heap.size]? = some (.mapIter (some bm) clk #[] clk) := hnew _ _
  have HF := Lib.hid (And.intro he1 (And.intro hpm (And.intro hg (And.intro hle (And.intro h2.bnodup hbm)))))
  have HW := Lib.hid (And.intro h2 (And.intro h2' (And.intro hal hit)))
  clear h1 h2 h3 h4 hw he1 hpm hel hg hle h2' hal hit hbm
  go_enter Try.func19, Try.ntmps19
  go_wp2_with fail
  go_loopw [3] (fun ov wr => ∃ (done : List (MR.Ent Int)) (seen : Array Nat), RIf.Own wr (w.heap.size + 1) ov (done.map (entI l)) ∧ wr.heap[w.heap.size]? = some (.mapIter (some bm) clk seen clk) ∧ MR.Ran es seen done ∧ Below w.heap.size w wr ∧ w.heap.size + 1 ≤ wr.heap.size) (fun ov _ => es.length - lenV ov)
  case atStart => exact ⟨[], #[], Rep.Own.nil _ _, HW.out.2.2.2, MR.Ran.none _, HW.out.2.2.1, by simp⟩
  case round =>
    obtain ⟨done, seen, hown, hit, hran, hb, hsz⟩ := hrel
    obtain ⟨w2, rfl⟩ : ∃ w2 : World, w2 = wr := ⟨_, rfl⟩
    have hm2 : MR.MapAt IN w2 bm es clk := HW.out.1.blk_iff IN (hb.block _ HF.out.2.2.2.2.2)
    have hdl : done.length ≤ es.length := hran.len HF.out.2.2.2.2.1
    rcases MR.next_step IN hm2 hit 0 with ⟨hall, hnx⟩ | ⟨e, hein, hens, w3, hnx, hset⟩
    · have hpe := hran.all HF.out.2.2.2.2.1 hall
      obtain ⟨oa, cc, rfl, -, -⟩ := hown.sl0
      have hbs : w.heap.size + 1 ≤ w2.heap.size := hsz
      have hln : (done.map (entI l)).length < 4611686018427387904 := by rw [List.length_map]; have := HF.out.2.2.2.1; omega
      have HS := Lib.hid (Rep.sort_own (R := RIf) sortIf Try.isAgg34 Try.sizeOf34 cmpIf (swo_cmp If.id) 46 #[] enters_cl hown (fun g => cmpIf_lays g _ _) hln hbs)
      have G := Lib.hid (And.intro (hpe.map (entI l)) hb)
      generalize (done.map (entI l)).length = m at *
      clear hown hm2 hit hran hb hdl hall hpe hln
      have HM := Lib.hid HF.out.2.1
      have HG0 := Lib.hid HF.out.2.2.1
      go_wp2_with fail
      refine (HS.out).mono ?_
      rintro ev w9 ⟨rfl, M, hp, hs, hown9, hb9⟩
      have HE := Lib.hid (show RIf.Own w9 (w.heap.size + 1) (.slice oa m cc) (sortI l) ∧ Below w.heap.size w w9 from by
        have := sorted_is HG0.out (hp.trans (G.out.1.trans HM.out)) hs
        subst this
        exact ⟨hown9, G.out.2.trans (hb9.mono (Nat.le_succ _))⟩)
      clear hp hs hown9 hb9 HS G HM HG0
      go_wp2_with fail
      go_ret
      exact ⟨_, rfl, HE.out.1.mono (Nat.le_succ _), HE.out.2⟩
    · have hm3 := hm2.blk_iff IN (hset.other (show bm ≠ w.heap.size from by have := HF.out.2.2.2.2.2; omega))
      have hen := MR.run_entry IN hm3 hein (hset.at hsz)
      rw [(HF.out.1 e hein).1] at hnx hen
      have hown3 := Rep.Own.but hown (But.of_set hset (bs := [w.heap.size]) (by simp)) (by simp)
      have hb3 : Below w.heap.size w w3 := hb.trans (hset.below (Nat.le_refl _))
      have hr3 := hran.more hein hens
      have hit3 := hset.at hsz
      have hs3 : w.heap.size + 1 ≤ w3.heap.size := by rw [hset.size]; exact hsz
      have hdl3 : (done ++ [e]).length ≤ es.length := hr3.len HF.out.2.2.2.2.1
      have hme : (done ++ [e]).map (entI l) = done.map (entI l) ++ [entI l e] := by simp
      have hlv := Own_lenV hown
      have hln : (done.map (entI l)).length = done.length := List.length_map _
      have hl2 : (done ++ [e]).length = done.length + 1 := by simp
      have hale := HF.out.2.2.2.1
      obtain ⟨oa, cc, rfl, -, -⟩ := hown.sl0
      have HG := Lib.hid (And.intro hown3 (And.intro hr3 (And.intro hb3 (And.intro hs3 (And.intro hit3 (And.intro hme (And.intro hdl3 (And.intro hlv (And.intro hln hl2)))))))))
      generalize (done.map (entI l)).length = m at *
      generalize entI l e = x at *
      unfold If.v at hnx hen
      clear hown hran hb hdl hm2 hit hm3 hset hens hown3 hr3 hb3 hs3 hit3 hme hdl3 hlv hln hl2 hein
      go_wp2_with (with_reducible refine halt_store 34 rfl ?_)
      refine Halted.go ?_
      have hal := (Below.refl w3.heap.size w3).alloc (Nat.le_refl _) (.cells #[.int .i64 0, .int .i64 0, .int .u32 0, .int .i64 0, .int .i64 0] 34)
      refine store_whole rfl 34 _ _ rfl w3.heap.size #[.int .i64 x.id, .int .i64 x.r, .int .u32 (x.ad : Int), .int .i64 x.ln, .int .i64 x.cp] rfl rfl (hnew _ _) rfl (by kernel_rfl) (by simp [Value.oneCell']) ?_
      intro wz hwz hsz
      have hzb : Below w3.heap.size w3 wz := Below.trans hal (hsz.below (Nat.le_refl _))
      obtain ⟨z0, z1, z2, z3, z4⟩ := IfS.cells (x := x) hwz
      have HZ := Lib.hid hzb
      clear hwz hsz hal hzb
      go_wp2_with (at_builtin; refine halt ?_)
      refine Halted.go ?_
      have hm2 : m + 1 ≤ 256 := by obtain ⟨k1, -, k2, k3⟩ := HG.out.2.2.2.2.2.2; omega
      refine Rep.append_one T23 rfl _ _ rfl rfl ((HG.out.1.below HZ.out).alloc _) x wz.heap.size 1 rfl (hnew _ _) (n := m) (by rw [List.length_map]; exact HG.out.2.2.2.2.2.2.2.2.1.symm) (by unfold maxLen; omega) (by show (m + 1) * 40 ≤ _; omega) (by have := HZ.out.size; have := HG.out.2.2.2.1; simp; omega) ?_
      intro v7 w7 hown7 hb7 _
      have hbz : Below (w.heap.size + 1) w3 w7 := (HZ.out.mono HG.out.2.2.2.1).trans (((Below.refl _ _).alloc (Nat.le_trans HG.out.2.2.2.1 HZ.out.size) _).trans hb7)
      obtain ⟨o7, c7, rfl, -, -⟩ := hown7.sl0
      have HJ := Lib.hid (And.intro hown7 hbz)
      clear hown7 hb7 hbz z0 z1 z2 z3 z4
      obtain ⟨k1, hkl⟩ : ∃ k1, (List.map (entI l) done ++ [x]).length = k1 := ⟨_, rfl⟩
      have HK := Lib.hid hkl
      rw [hkl]
      clear hkl hm2
      go_wp2_with fail
      obtain ⟨g1, g2, g3, g4, g5, g6, g7, g8, g9, g10⟩ := HG.out
      have hk1 : k1 = m + 1 := by rw [← HK.out, List.length_append, List.length_map, g9]; rfl
      refine ⟨⟨done ++ [e], seen.push e.2.2, ?_, (HJ.out.2.block _ (Nat.lt_succ_self _)).trans g5, g2, g3.trans (HJ.out.2.mono (Nat.le_succ _)), Nat.le_trans g4 HJ.out.2.size⟩, ?_⟩
      · rw [g6, ← HK.out]; exact HJ.out.1
      · show es.length - k1 < es.length - m
        omega
end Go.Proofs.Ytlkbaplfffbmkaa
