/- The reference's Sort. -/
import Derived.Test.YtadoflcomienoaaGreatZad
import Derived.Test.YtadoflcomienoaaGreatZae
import Derived.Test.YtadoflcomienoaaGreatZai
import Derived.Test.YtadoflcomienoaaGreatZaa
namespace Go.Proofs.YtadoflcomienoaaGreat
open Go.RowKit

/-- those of the first i, in order -/
structure SrtI (L : List Nl) (i : Nat) (out : List Nl) : Prop where
  ord : OrdN out
  mem : ∀ y, y ∈ out ↔ y ∈ L.take i
  len : out.length ≤ i
theorem SrtI.zero (L : List Nl) : SrtI L 0 [] := ⟨List.Pairwise.nil, by simp, Nat.le_refl _⟩
theorem take_getD {L : List Nl} {i : Nat} (h : i < L.length) : L.take (i + 1) = L.take i ++ [L.getD i default] := by
  rw [List.take_add_one, List.getElem?_eq_getElem h, Option.toList_some, List.getD_eq_getElem?_getD, List.getElem?_eq_getElem h, Option.getD_some]
theorem SrtI.skip {L out : List Nl} {i : Nat} (h : SrtI L i out) (hi : i < L.length) (hm : L.getD i default ∈ out) : SrtI L (i + 1) out :=
  ⟨h.ord, fun y => by
    rw [take_getD hi, List.mem_append, List.mem_singleton, ← h.mem]
    exact ⟨.inl, fun h2 => h2.elim id (fun e => e ▸ hm)⟩, Nat.le_succ_of_le h.len⟩
theorem SrtI.ins {L out : List Nl} {i k : Nat} {x : Nl} (h : SrtI L i out) (hi : i < L.length) (hx : L.getD i default = x) (hlow : ∀ a, a < k → ltN (out.getD a default) x = true) (hk : k ≤ out.length) (hup : k < out.length → ltN x (out.getD k default) = true) : SrtI L (i + 1) (out.take k ++ [x] ++ out.drop k) :=
  ⟨h.ord.ins hlow hk hup, fun y => by
    rw [take_getD hi, hx, mem_ins, List.mem_append, List.mem_singleton, ← h.mem]
    exact or_comm, by
    have := h.len
    simp only [List.length_append, List.length_take, List.length_drop, List.length_singleton]
    omega⟩
theorem SrtI.all {L out : List Nl} (h : SrtI L L.length out) : out = sortN L := sortN_is h.ord (fun y => by rw [h.mem, List.take_length])
theorem at_range {W : World} {b o : Nat} {z : Nl} (h : RNl.At W b o z) : W.rangeAt b o (#[Value.int .i64 z.id, .int .u32 (z.a : Int), .int .i64 z.ln] : Array Value).toList := by
  intro j v hv
  have hj : j < 3 := (List.getElem?_eq_some_iff.1 hv).1
  exact (h j hj).trans hv
theorem nl_ne {z x : Nl} (h : z ≠ x) : (z.id == x.id) = false ∨ (z.id = x.id ∧ ((z.a : Int) == (x.a : Int)) = false) ∨ (z.id = x.id ∧ (z.a : Int) = (x.a : Int) ∧ (z.ln == x.ln) = false) := by
  by_cases e : z.id = x.id
  · by_cases f : z.a = x.a
    · exact .inr (.inr ⟨e, by rw [f], by simpa using fun g : z.ln = x.ln => h (Nl.ext' e (Prod.ext f g))⟩)
    · exact .inr (.inl ⟨e, by simpa using fun g : ((z.a : Nat) : Int) = (x.a : Int) => f (by omega)⟩)
  · exact .inl (by simpa using e)
structure SrS (w : World) (b o : Nat) (x : Nl) (W : World) : Prop where
  at' : RNl.At W b o x
  lt : b < w.heap.size
  old : Below w.heap.size w W
theorem SrS.keep {w : World} {b o : Nat} {x : Nl} {W W' : World} (h : SrS w b o x W) (hb : Below W.heap.size W W') : SrS w b o x W' := ⟨h.at'.keep (hb.block _ (Nat.lt_of_lt_of_le h.lt h.old.size)), h.lt, bcall h.old (Nat.le_refl _) hb⟩
structure SrD (w : World) (b o : Nat) (x : Nl) (g og : Nat) (z : Nl) (W : World) : Prop where
  s : SrS w b o x W
  at' : RNl.At W g og z
theorem SrD.keep {w : World} {b o : Nat} {x : Nl} {g og : Nat} {z : Nl} {W W' : World} (h : SrD w b o x g og z W) (hb : Below W.heap.size W W') (hl : g < W.heap.size) : SrD w b o x g og z W' := ⟨h.s.keep hb, h.at'.keep (hb.block _ hl)⟩
set_option maxRecDepth 100000 in
set_option maxHeartbeats 16000000 in
theorem rsort_any {w : World} {oa : Option Addr} {n c : Nat} {L : List Nl} (h : Nls w oa n c L) (hn : n = L.length) (hmx : n ≤ 16384) : Calls Tryz.prog 149 #[.slice oa n c] w fun e w' => ∃ v, e = .returned v ∧ RNl.Own w' w.heap.size v (sortN L) ∧ Below w.heap.size w w' := by
  have F := Lib.hid (And.intro h hn)
  clear h hn
  go_enter Tryz.func149, Tryz.ntmps149
  go_wp2_with fail
  go_loopw [3, 4] (fun ov iv wr => ∃ (i : Nat) (out : List Nl), i ≤ n ∧ iv = .int .i64 i ∧ RNl.Own wr w.heap.size ov out ∧ SrtI L i out ∧ Below w.heap.size w wr) (fun _ iv _ => n - (intOf iv).toNat)
  case atStart => exact ⟨0, [], Nat.zero_le _, rfl, Rep.Own.nil _ _, SrtI.zero L, Below.refl _ _⟩
  case round =>
    obtain ⟨i, out, hi, rfl, hown, hst, hb⟩ := hrel
    obtain ⟨w2, rfl⟩ : ∃ w2 : World, w2 = wr := ⟨_, rfl⟩
    obtain ⟨oc, cc, rfl, hsl, hn0⟩ := hown.sl0
    by_cases hlt : i < n
    · have hil : ((i : Int) < (n : Int)) = True := by simp; omega
      have hi0 : ((0 : Int) ≤ (i : Int)) = True := by simp
      have hwi := wrapS hlt (show n ≤ maxLen by unfold maxLen; omega)
      obtain ⟨b, o, rfl, hbb, hat⟩ := F.out.1.sl.at hlt
      obtain ⟨x, hx⟩ : ∃ x, L.getD i default = x := ⟨_, rfl⟩
      rw [hx] at hat
      have hS : SrS w b (o + i * 3) x w2 := ⟨hat.keep (hb.block _ hbb), hbb, hb⟩
      have hnc : ∃ m, out.length = m ∧ m ≤ cc := by
        rcases hown.cases with ⟨e1, e2⟩ | ⟨g, cap, e1, h1, h2, h3, -⟩
        · injection e1 with e3 e4 e5
          exact ⟨0, by rw [e2]; rfl, Nat.zero_le _⟩
        · injection e1 with e3 e4 e5
          exact ⟨_, rfl, by rw [e5]; exact h3⟩
      obtain ⟨m, hm, hmc⟩ := hnc
      rw [hm] at hown hsl ⊢
      have hmm : m ≤ 16384 := by
        have := hst.len
        omega
      have hil2 : i < L.length := by have := F.out.2; omega
      have G := Lib.hid (And.intro hown (And.intro hst (And.intro hil2 (And.intro hx (And.intro hm (And.intro hmc hn0))))))
      have GW := Lib.hid (And.intro hS hsl)
      have HJ := Lib.hid (And.intro hlt hwi)
      clear hown hst hil2 hx hm hmc hn0 hS hsl hlt hat hbb hb hi
      go_wp2_with fail
      go_loopw [5] (fun kv wr => ∃ k : Nat, k ≤ m ∧ kv = .int .i64 k ∧ (∀ a, a < k → ltN (out.getD a default) x = true) ∧ Below w2.heap.size w2 wr) (fun kv _ => m - (intOf kv).toNat)
      case atStart => exact ⟨0, Nat.zero_le _, rfl, fun a ha => absurd ha (Nat.not_lt_zero _), Below.refl _ _⟩
      case round =>
        obtain ⟨k, hk, rfl, hlow, hb⟩ := hrel
        obtain ⟨w5, rfl⟩ : ∃ w5 : World, w5 = wr := ⟨_, rfl⟩
        have hk0 : ((0 : Int) ≤ (k : Int)) = True := by simp
        by_cases hkm : k < m
        · have hkt : ((k : Int) < (m : Int)) = True := by simp; omega
          have hwk := wrapS hkm (show m ≤ maxLen by unfold maxLen; omega)
          obtain ⟨g, og, e, hgl, hat⟩ := GW.out.2.at hkm
          subst e
          obtain ⟨z, hz⟩ : ∃ z, out.getD k default = z := ⟨_, rfl⟩
          rw [hz] at hat
          have hd := (Below.refl w5.heap.size w5).drew
          have K := Lib.hid (And.intro (show SrD w b (o + i * 3) x g (og + k * 3) z w5.drew from SrD.keep ⟨GW.out.1.keep hb, hat.keep (hb.block _ hgl)⟩ hd (Nat.lt_of_lt_of_le hgl hb.size)) (show Below w2.heap.size w2 w5.drew from bcall hb (Nat.le_refl _) hd))
          have HF := Lib.hid (And.intro hlow (And.intro hz (And.intro hgl hkm)))
          have HC := Lib.hid (rncompare_any z x)
          have hcl := @cmpN_lt z x
          generalize cmpN z x = cv at *
          clear hb hlow hz hat hd hgl
          go_wp2_with fail
          refine wp_region_heldP (SrD w b (o + i * 3) x g (og + k * 3) z) (by kernel_rfl) ?_
          generalize w5.drew = V at *
          refine held_reads [0, 1, 2, 3, 4, 5, 6, 7, 8, 9, 10, 11, 12] (g := 3) rfl (by kernel_rfl) K.out.1 (fun _ _ d _ _ h => by cases d <;> exact h) ?_
          simp only [pick, List.getD_cons_zero, List.getD_cons_succ]
          iterate 8 ((with_reducible refine wpRead_step (fun K hK => ?_)); go_simp; first | ((with_reducible refine hK _ ?_); clear hK K) | (apply Exists.intro; (with_reducible refine ⟨fun w' hw' => ?_, hK _ ?_⟩); (first | exact rfl | exact ⟨rfl, rfl⟩); clear hK K))
          with_reducible refine wpRead_yes ?_ ?_
          rotate_left
          rfl
          intro K hK
          refine read_load 60 _ rfl g (og + k * 3) #[.int .i64 z.id, .int .u32 (z.a : Int), .int .i64 z.ln] rfl (fun w' hw' => at_range hw'.at') Tryz.underlying60 rfl (by kernel_rfl) (hK _ ?_)
          clear hK K
          iterate 3 ((with_reducible refine wpRead_step (fun K hK => ?_)); go_simp; first | ((with_reducible refine hK _ ?_); clear hK K) | (apply Exists.intro; (with_reducible refine ⟨fun w' hw' => ?_, hK _ ?_⟩); (first | exact rfl | exact ⟨rfl, rfl⟩); clear hK K))
          with_reducible refine wpRead_yes ?_ ?_
          rotate_left
          rfl
          intro K hK
          refine read_load 60 _ rfl b (o + i * 3) #[.int .i64 x.id, .int .u32 (x.a : Int), .int .i64 x.ln] rfl (fun w' hw' => at_range hw'.s.at') Tryz.underlying60 rfl (by kernel_rfl) (hK _ ?_)
          clear hK K
          with_reducible refine wpRead_nil ?_
          refine held_one 13 (by kernel_rfl) ?_
          simp only [pick, List.getD_cons_zero, List.getD_cons_succ]
          go_wp2_with fail
          refine (HC.out _).mono ?_
          rintro e V2 ⟨rfl, hb⟩
          have K3 := Lib.hid (And.intro (SrD.keep K.out.1 hb (Nat.lt_of_lt_of_le HF.out.2.2.1 K.out.2.size)) (bcall K.out.2 (Nat.le_refl _) hb))
          clear hb
          go_wp2_with fail
          refine ⟨K3.out.1, ?_⟩
          cases hlz : ltN z x with
          | true =>
            have hcv : (cv < 0) = True := eq_true (hcl.2 hlz)
            have HN := Lib.hid (show ∀ a, a < k + 1 → ltN (out.getD a default) x = true from fun a ha => by
              by_cases e : a = k
              · rw [e, HF.out.2.1]; exact hlz
              · exact HF.out.1 a (by omega))
            clear hcl hlz
            refine held_reads [14, 15] (g := 0) rfl (by kernel_rfl) K3.out.1 (fun _ _ d _ _ h => by cases d <;> exact h) ?_
            simp only [pick, List.getD_cons_zero, List.getD_cons_succ]
            iterate 2 ((with_reducible refine wpRead_step (fun K hK => ?_)); go_simp; first | ((with_reducible refine hK _ ?_); clear hK K) | (apply Exists.intro; (with_reducible refine ⟨fun w' hw' => ?_, hK _ ?_⟩); (first | exact rfl | exact ⟨rfl, rfl⟩); clear hK K))
            with_reducible refine wpRead_nil ?_
            refine wpAnyH_done (by kernel_rfl) ?_ _
            go_wp2_with fail
            exact ⟨⟨k + 1, hkm, by first | rw [hwk] | rw [Int.natCast_succ], HN.out, K3.out.2⟩, by first | (rw [hwk]; exact mSucc hkm) | (rw [← Int.natCast_succ]; exact mSucc hkm)⟩
          | false =>
            have hcv : (cv < 0) = False := eq_false (fun h => by rw [hcl.1 h] at hlz; cases hlz)
            have HZ := Lib.hid hlz
            clear hcl hlz
            refine held_reads [14, 15] (g := 0) rfl (by kernel_rfl) K3.out.1 (fun _ _ d _ _ h => by cases d <;> exact h) ?_
            simp only [pick, List.getD_cons_zero, List.getD_cons_succ]
            iterate 2 ((with_reducible refine wpRead_step (fun K hK => ?_)); go_simp; first | ((with_reducible refine hK _ ?_); clear hK K) | (apply Exists.intro; (with_reducible refine ⟨fun w' hw' => ?_, hK _ ?_⟩); (first | exact rfl | exact ⟨rfl, rfl⟩); clear hK K))
            with_reducible refine wpRead_nil ?_
            refine wpAnyH_done (by kernel_rfl) ?_ _
            have KW := Lib.hid (And.intro K3.out.1 (And.intro (G.out.1.below K3.out.2) (And.intro K3.out.2 (GW.out.2.keep K3.out.2))))
            clear K3 K
            go_wp2_with fail
            refine wp_region_heldP (SrD w b (o + i * 3) x g (og + k * 3) z) (by kernel_rfl) ?_
            have hd := (Below.refl V2.heap.size V2).drew
            have KY := Lib.hid (And.intro (SrD.keep KW.out.1 hd (Nat.lt_of_lt_of_le HF.out.2.2.1 KW.out.2.2.1.size)) (And.intro (KW.out.2.1.below hd) (And.intro (bcall KW.out.2.2.1 (Nat.le_refl _) hd) (KW.out.2.2.2.keep hd))))
            clear hd KW
            generalize V2.drew = V7 at *
            by_cases hzx : z = x
            · have e1 : z.id = x.id := by rw [hzx]
              have e2 : (z.a : Int) = (x.a : Int) := by rw [hzx]
              have e3 : z.ln = x.ln := by rw [hzx]
              have HSK := Lib.hid (G.out.2.1.skip G.out.2.2.1 (by
                rw [G.out.2.2.2.1, ← hzx, ← HF.out.2.1]
                exact getD_mem (by rw [G.out.2.2.2.2.1]; exact HF.out.2.2.2)))
              clear hzx
              refine held_reads [0, 1, 2, 3, 4, 5, 6, 7, 8, 9, 10, 11, 12, 13, 14] (g := 0) rfl (by kernel_rfl) KY.out.1 (fun _ _ d _ _ h => by cases d <;> exact h) ?_
              simp only [pick, List.getD_cons_zero, List.getD_cons_succ]
              iterate 8 ((with_reducible refine wpRead_step (fun K hK => ?_)); go_simp; first | ((with_reducible refine hK _ ?_); clear hK K) | (apply Exists.intro; (with_reducible refine ⟨fun w' hw' => ?_, hK _ ?_⟩); (first | exact rfl | exact ⟨rfl, rfl⟩); clear hK K))
              with_reducible refine wpRead_yes ?_ ?_
              rotate_left
              rfl
              intro K hK
              refine read_load 60 _ rfl g (og + k * 3) #[.int .i64 z.id, .int .u32 (z.a : Int), .int .i64 z.ln] rfl (fun w' hw' => at_range hw'.at') Tryz.underlying60 rfl (by kernel_rfl) (hK _ ?_)
              clear hK K
              iterate 3 ((with_reducible refine wpRead_step (fun K hK => ?_)); go_simp; first | ((with_reducible refine hK _ ?_); clear hK K) | (apply Exists.intro; (with_reducible refine ⟨fun w' hw' => ?_, hK _ ?_⟩); (first | exact rfl | exact ⟨rfl, rfl⟩); clear hK K))
              with_reducible refine wpRead_yes ?_ ?_
              rotate_left
              rfl
              intro K hK
              refine read_load 60 _ rfl b (o + i * 3) #[.int .i64 x.id, .int .u32 (x.a : Int), .int .i64 x.ln] rfl (fun w' hw' => at_range hw'.s.at') Tryz.underlying60 rfl (by kernel_rfl) (hK _ ?_)
              clear hK K
              iterate 2 ((with_reducible refine wpRead_step (fun K hK => ?_)); go_simp; first | ((with_reducible refine hK _ ?_); clear hK K) | (apply Exists.intro; (with_reducible refine ⟨fun w' hw' => ?_, hK _ ?_⟩); (first | exact rfl | exact ⟨rfl, rfl⟩); clear hK K))
              with_reducible refine wpRead_nil ?_
              refine wpAnyH_done (by kernel_rfl) ?_ _
              go_wp2_with fail
              exact ⟨⟨i + 1, out, HJ.out.1, by first | rw [HJ.out.2] | rw [Int.natCast_succ], KY.out.2.1, HSK.out, KY.out.1.s.old⟩, by first | (rw [HJ.out.2]; exact mSucc HJ.out.1) | (rw [← Int.natCast_succ]; exact mSucc HJ.out.1)⟩
            · have HUP := Lib.hid (show k < out.length → ltN x (out.getD k default) = true from fun _ => by
                rw [HF.out.2.1]
                rcases ltN_total z x with h | h | h
                · rw [HZ.out] at h; cases h
                · exact absurd h hzx
                · exact h)
              rcases nl_ne hzx with e1 | ⟨e1, e2⟩ | ⟨e1, e2, e3⟩
              all_goals
                clear hzx
                refine held_reads [0, 1, 2, 3, 4, 5, 6, 7, 8, 9, 10, 11, 12, 13, 14] (g := 0) rfl (by kernel_rfl) KY.out.1 (fun _ _ d _ _ h => by cases d <;> exact h) ?_
                simp only [pick, List.getD_cons_zero, List.getD_cons_succ]
                iterate 8 ((with_reducible refine wpRead_step (fun K hK => ?_)); go_simp; first | ((with_reducible refine hK _ ?_); clear hK K) | (apply Exists.intro; (with_reducible refine ⟨fun w' hw' => ?_, hK _ ?_⟩); (first | exact rfl | exact ⟨rfl, rfl⟩); clear hK K))
                with_reducible refine wpRead_yes ?_ ?_
                rotate_left
                rfl
                intro K hK
                refine read_load 60 _ rfl g (og + k * 3) #[.int .i64 z.id, .int .u32 (z.a : Int), .int .i64 z.ln] rfl (fun w' hw' => at_range hw'.at') Tryz.underlying60 rfl (by kernel_rfl) (hK _ ?_)
                clear hK K
                iterate 3 ((with_reducible refine wpRead_step (fun K hK => ?_)); go_simp; first | ((with_reducible refine hK _ ?_); clear hK K) | (apply Exists.intro; (with_reducible refine ⟨fun w' hw' => ?_, hK _ ?_⟩); (first | exact rfl | exact ⟨rfl, rfl⟩); clear hK K))
                with_reducible refine wpRead_yes ?_ ?_
                rotate_left
                rfl
                intro K hK
                refine read_load 60 _ rfl b (o + i * 3) #[.int .i64 x.id, .int .u32 (x.a : Int), .int .i64 x.ln] rfl (fun w' hw' => at_range hw'.s.at') Tryz.underlying60 rfl (by kernel_rfl) (hK _ ?_)
                clear hK K
                iterate 2 ((with_reducible refine wpRead_step (fun K hK => ?_)); go_simp; first | ((with_reducible refine hK _ ?_); clear hK K) | (apply Exists.intro; (with_reducible refine ⟨fun w' hw' => ?_, hK _ ?_⟩); (first | exact rfl | exact ⟨rfl, rfl⟩); clear hK K))
                with_reducible refine wpRead_nil ?_
                refine wpAnyH_done (by kernel_rfl) ?_ _
                obtain ⟨sa, hr1, hr2, hst, hsn, -⟩ := Rep.cut_from TNl KY.out.2.2.2 G.out.2.2.2.2.2.1 G.out.2.2.2.2.2.2 (i := k) (Nat.le_of_lt HF.out.2.2.2)
                obtain ⟨sk, hq1, hq2, hsk⟩ := Rep.cut_kk TNl KY.out.2.2.2 G.out.2.2.2.2.2.1 (i := k) (Nat.le_of_lt HF.out.2.2.2)
                have hal0 := (Below.refl V7.heap.size V7).alloc (Nat.le_refl _) (.cells #[] 60)
                have hem : RNl.Own (V7.alloc (.cells #[] 60)) V7.heap.size (.slice (some ⟨V7.heap.size, 0, none⟩) 0 0) ([] : List Nl) := Rep.own_empty (hnew _ _) (Nat.le_refl _)
                have N1 := Lib.hid (And.intro hal0 (And.intro hem (And.intro (hst.keep hal0) (And.intro hsn hsk))))
                have HQQ := Lib.hid (And.intro hq1 hq2)
                clear hal0 hem hst hsn hsk hq1 hq2
                go_wp2_with (at_builtin; refine halt ?_)
                refine Halted.go ?_
                clear hr1 hr2
                generalize V7.alloc (.cells #[] 60) = V8 at *
                refine Rep.append_list TNl rfl _ _ rfl rfl N1.out.2.1 (L := []) (M := out.drop k) rfl N1.out.2.2.1 N1.out.2.2.2.1 (by rw [List.length_nil]; unfold maxLen; omega) (by rw [List.length_nil]; omega) N1.out.1.size ?_
                intro v9 V9 hown9 hb9 _
                rw [List.nil_append] at hown9
                obtain ⟨a9, c9, rfl, hsl9, hn9⟩ := hown9.sl0
                have hl9 : (out.drop k).length = m - k := by rw [List.length_drop, G.out.2.2.2.2.1]
                rw [hl9] at hsl9 ⊢
                have hb79 := N1.out.1.trans hb9
                have N2 := Lib.hid (And.intro (KY.out.1.s.keep hb79) (And.intro (N1.out.2.2.2.2.keep hb79) (And.intro hsl9 hn9)))
                clear hown9 hb9 hsl9 hn9 hl9 hb79 N1 KY
                obtain ⟨hq1, hq2⟩ := HQQ.out
                go_wp2_with fail
                refine wp_region_heldP (SrS w b (o + i * 3) x) (by kernel_rfl) ?_
                have hd := (Below.refl V9.heap.size V9).drew
                have N3 := Lib.hid (And.intro (N2.out.1.keep hd) (And.intro (N2.out.2.1.keep hd) (And.intro (N2.out.2.2.1.keep hd) N2.out.2.2.2)))
                clear hd N2
                generalize V9.drew = V10 at *
                refine held_reads [0, 1, 2, 3, 4, 5, 6, 7, 10] (g := 4) rfl (by kernel_rfl) N3.out.1 (fun _ _ d _ _ h => by cases d <;> exact h) ?_
                simp only [pick, List.getD_cons_zero, List.getD_cons_succ]
                iterate 7 ((with_reducible refine wpRead_step (fun K hK => ?_)); go_simp; first | ((with_reducible refine hK _ ?_); clear hK K) | (apply Exists.intro; (with_reducible refine ⟨fun w' hw' => ?_, hK _ ?_⟩); (first | exact rfl | exact ⟨rfl, rfl⟩); clear hK K))
                with_reducible refine wpRead_yes ?_ ?_
                rotate_left
                rfl
                intro K hK
                refine read_load 60 _ rfl b (o + i * 3) #[.int .i64 x.id, .int .u32 (x.a : Int), .int .i64 x.ln] rfl (fun w' hw' => at_range hw'.at') Tryz.underlying60 rfl (by kernel_rfl) (hK _ ?_)
                clear hK K
                ((with_reducible refine wpRead_step (fun K hK => ?_)); go_simp; first | ((with_reducible refine hK _ ?_); clear hK K) | (apply Exists.intro; (with_reducible refine ⟨fun w' hw' => ?_, hK _ ?_⟩); (first | exact rfl | exact ⟨rfl, rfl⟩); clear hK K))
                with_reducible refine wpRead_nil ?_
                clear hq1 hq2
                refine held_one 8 (by kernel_rfl) ?_
                simp only [pick, List.getD_cons_zero, List.getD_cons_succ]
                have hal := (Below.refl V10.heap.size V10).alloc (Nat.le_refl _) (.cells #[.int .i64 x.id, .int .u32 (x.a : Int), .int .i64 x.ln] 60)
                have hone : RNl.Sl (V10.alloc (.cells #[.int .i64 x.id, .int .u32 (x.a : Int), .int .i64 x.ln] 60)) (some ⟨V10.heap.size, 0, none⟩) 1 1 [x] := Rep.sl_one (R := RNl) (y := x) (hnew _ _)
                have N4 := Lib.hid (And.intro (N3.out.1.keep hal) (And.intro (N3.out.2.1.keep hal) (And.intro (N3.out.2.2.1.keep hal) (And.intro N3.out.2.2.2 hone))))
                clear hal hone N3
                go_wp2_with fail
                refine ⟨N4.out.1, ?_⟩
                generalize V10.alloc (.cells #[.int .i64 x.id, .int .u32 (x.a : Int), .int .i64 x.ln] 60) = V11 at *
                generalize V10.heap.size = q11 at *
                refine held_one 9 (by kernel_rfl) ?_
                simp only [pick, List.getD_cons_zero, List.getD_cons_succ]
                go_wp2_with (at_builtin; refine halt ?_)
                refine Halted.go ?_
                refine Rep.append_cut TNl rfl _ _ rfl rfl N4.out.2.1 rfl N4.out.2.2.2.2 (by omega) (by unfold maxLen; omega) (by omega) ?_
                intro v12 V12 hown12 hb12
                have N5 := Lib.hid (And.intro hb12 (And.intro (N4.out.2.2.1.keep hb12) hown12))
                clear hown12 hb12
                go_wp2_with fail
                refine ⟨N4.out.1.keep N5.out.1, ?_⟩
                refine held_one 11 (by kernel_rfl) ?_
                simp only [pick, List.getD_cons_zero, List.getD_cons_succ]
                go_wp2_with (at_builtin; refine halt ?_)
                refine Halted.go ?_
                have hlt : (out.take k ++ [x]).length = k + 1 := by rw [List.length_append, List.length_take, G.out.2.2.2.2.1, List.length_singleton]; have := HF.out.2.2.2; omega
                refine Rep.append_list TNl rfl _ _ rfl rfl N5.out.2.2 rfl N5.out.2.1 N4.out.2.2.2.1 (by rw [hlt]; unfold maxLen; omega) (by rw [hlt]; omega) N5.out.1.size ?_
                intro v13 V13 hown13 hb13 _
                have HIN := Lib.hid (show SrtI L (i + 1) (out.take k ++ [x] ++ out.drop k) from G.out.2.1.ins G.out.2.2.1 G.out.2.2.2.1 HF.out.1 (by rw [G.out.2.2.2.2.1]; exact Nat.le_of_lt HF.out.2.2.2) HUP.out)
                have N6 := Lib.hid (And.intro (N4.out.1.keep (N5.out.1.trans hb13)) (hown13.mono N4.out.1.old.size))
                clear hlt hown13 hb13 N5 N4
                go_wp2_with fail
                refine ⟨N6.out.1, ?_⟩
                refine held_one 12 (by kernel_rfl) ?_
                simp only [pick, List.getD_cons_zero, List.getD_cons_succ]
                go_wp2_with fail
                refine ⟨N6.out.1, ?_⟩
                refine wpAnyH_done (by kernel_rfl) ?_ _
                go_wp2_with fail
                exact ⟨⟨i + 1, _, HJ.out.1, by first | rw [HJ.out.2] | rw [Int.natCast_succ], N6.out.2, HIN.out, N6.out.1.old⟩, by first | (rw [HJ.out.2]; exact mSucc HJ.out.1) | (rw [← Int.natCast_succ]; exact mSucc HJ.out.1)⟩
        · obtain rfl : k = m := by omega
          have hkt : ((k : Int) < (k : Int)) = False := by simp
          have hd := (Below.refl w5.heap.size w5).drew
          have hbd : Below w2.heap.size w2 w5.drew := bcall hb (Nat.le_refl _) hd
          have KW := Lib.hid (And.intro (GW.out.1.keep hbd) (And.intro (G.out.1.below hbd) (And.intro hbd (GW.out.2.keep hbd))))
          have HF := Lib.hid hlow
          clear hb hd hbd hlow
          go_wp2_with fail
          refine wp_region_heldP (SrS w b (o + i * 3) x) (by kernel_rfl) ?_
          generalize w5.drew = V at *
          refine held_reads [0, 1, 2, 3, 4, 5, 6, 7, 8, 9, 10, 11, 12, 13, 14, 15] (g := 0) rfl (by kernel_rfl) KW.out.1 (fun _ _ d _ _ h => by cases d <;> exact h) ?_
          simp only [pick, List.getD_cons_zero, List.getD_cons_succ]
          iterate 16 ((with_reducible refine wpRead_step (fun K hK => ?_)); go_simp; first | ((with_reducible refine hK _ ?_); clear hK K) | (apply Exists.intro; (with_reducible refine ⟨fun w' hw' => ?_, hK _ ?_⟩); (first | exact rfl | exact ⟨rfl, rfl⟩); clear hK K))
          with_reducible refine wpRead_nil ?_
          refine wpAnyH_done (by kernel_rfl) ?_ _
          go_wp2_with fail
          refine wp_region_heldP (SrS w b (o + i * 3) x) (by kernel_rfl) ?_
          have hd := (Below.refl V.heap.size V).drew
          have KY := Lib.hid (And.intro (KW.out.1.keep hd) (And.intro (KW.out.2.1.below hd) (And.intro (bcall KW.out.2.2.1 (Nat.le_refl _) hd) (KW.out.2.2.2.keep hd))))
          clear hd KW
          generalize V.drew = V7 at *
          have HUP := Lib.hid (show k < out.length → ltN x (out.getD k default) = true from fun h => absurd h (by rw [G.out.2.2.2.2.1]; exact Nat.lt_irrefl _))
          refine held_reads [0, 1, 2, 3, 4, 5, 6, 7, 8, 9, 10, 11, 12, 13, 14] (g := 0) rfl (by kernel_rfl) KY.out.1 (fun _ _ d _ _ h => by cases d <;> exact h) ?_
          simp only [pick, List.getD_cons_zero, List.getD_cons_succ]
          iterate 15 ((with_reducible refine wpRead_step (fun K hK => ?_)); go_simp; first | (rw [if_neg (by decide)]; (with_reducible refine hK _ ?_); clear hK K) | ((with_reducible refine hK _ ?_); clear hK K) | (apply Exists.intro; (with_reducible refine ⟨fun w' hw' => ?_, hK _ ?_⟩); (first | exact rfl | exact ⟨rfl, rfl⟩); clear hK K))
          with_reducible refine wpRead_nil ?_
          refine wpAnyH_done (by kernel_rfl) ?_ _
          obtain ⟨sa, hr1, hr2, hst, hsn, -⟩ := Rep.cut_from TNl KY.out.2.2.2 G.out.2.2.2.2.2.1 G.out.2.2.2.2.2.2 (i := k) (Nat.le_refl _)
          simp only [Nat.sub_self] at hr1 hr2 hst
          obtain ⟨sk, hq1, hq2, hsk⟩ := Rep.cut_kk TNl KY.out.2.2.2 G.out.2.2.2.2.2.1 (i := k) (Nat.le_refl _)
          have hal0 := (Below.refl V7.heap.size V7).alloc (Nat.le_refl _) (.cells #[] 60)
          have hem : RNl.Own (V7.alloc (.cells #[] 60)) V7.heap.size (.slice (some ⟨V7.heap.size, 0, none⟩) 0 0) ([] : List Nl) := Rep.own_empty (hnew _ _) (Nat.le_refl _)
          have N1 := Lib.hid (And.intro hal0 (And.intro hem (And.intro (hst.keep hal0) (And.intro hsn hsk))))
          have HQQ := Lib.hid (And.intro hq1 hq2)
          clear hal0 hem hst hsn hsk hq1 hq2
          go_wp2_with (at_builtin; refine halt ?_)
          refine Halted.go ?_
          clear hr1 hr2
          generalize V7.alloc (.cells #[] 60) = V8 at *
          refine Rep.append_list TNl rfl _ _ rfl rfl N1.out.2.1 (L := []) (M := out.drop k) rfl N1.out.2.2.1 N1.out.2.2.2.1 (by rw [List.length_nil]; unfold maxLen; omega) (by rw [List.length_nil]; omega) N1.out.1.size ?_
          intro v9 V9 hown9 hb9 _
          rw [List.nil_append] at hown9
          obtain ⟨a9, c9, rfl, hsl9, hn9⟩ := hown9.sl0
          have hl9 : (out.drop k).length = 0 := by rw [List.length_drop, G.out.2.2.2.2.1, Nat.sub_self]
          rw [hl9] at hsl9 ⊢
          have hb79 := N1.out.1.trans hb9
          have N2 := Lib.hid (And.intro (KY.out.1.keep hb79) (And.intro (N1.out.2.2.2.2.keep hb79) (And.intro hsl9 hn9)))
          clear hown9 hb9 hsl9 hn9 hl9 hb79 N1 KY
          obtain ⟨hq1, hq2⟩ := HQQ.out
          go_wp2_with fail
          refine wp_region_heldP (SrS w b (o + i * 3) x) (by kernel_rfl) ?_
          have hd := (Below.refl V9.heap.size V9).drew
          have N3 := Lib.hid (And.intro (N2.out.1.keep hd) (And.intro (N2.out.2.1.keep hd) (And.intro (N2.out.2.2.1.keep hd) N2.out.2.2.2)))
          clear hd N2
          generalize V9.drew = V10 at *
          refine held_reads [0, 1, 2, 3, 4, 5, 6, 7, 10] (g := 4) rfl (by kernel_rfl) N3.out.1 (fun _ _ d _ _ h => by cases d <;> exact h) ?_
          simp only [pick, List.getD_cons_zero, List.getD_cons_succ]
          iterate 7 ((with_reducible refine wpRead_step (fun K hK => ?_)); go_simp; first | ((with_reducible refine hK _ ?_); clear hK K) | (apply Exists.intro; (with_reducible refine ⟨fun w' hw' => ?_, hK _ ?_⟩); (first | exact rfl | exact ⟨rfl, rfl⟩); clear hK K))
          with_reducible refine wpRead_yes ?_ ?_
          rotate_left
          rfl
          intro K hK
          refine read_load 60 _ rfl b (o + i * 3) #[.int .i64 x.id, .int .u32 (x.a : Int), .int .i64 x.ln] rfl (fun w' hw' => at_range hw'.at') Tryz.underlying60 rfl (by kernel_rfl) (hK _ ?_)
          clear hK K
          ((with_reducible refine wpRead_step (fun K hK => ?_)); go_simp; first | ((with_reducible refine hK _ ?_); clear hK K) | (apply Exists.intro; (with_reducible refine ⟨fun w' hw' => ?_, hK _ ?_⟩); (first | exact rfl | exact ⟨rfl, rfl⟩); clear hK K))
          with_reducible refine wpRead_nil ?_
          clear hq1 hq2
          refine held_one 8 (by kernel_rfl) ?_
          simp only [pick, List.getD_cons_zero, List.getD_cons_succ]
          have hal := (Below.refl V10.heap.size V10).alloc (Nat.le_refl _) (.cells #[.int .i64 x.id, .int .u32 (x.a : Int), .int .i64 x.ln] 60)
          have hone : RNl.Sl (V10.alloc (.cells #[.int .i64 x.id, .int .u32 (x.a : Int), .int .i64 x.ln] 60)) (some ⟨V10.heap.size, 0, none⟩) 1 1 [x] := Rep.sl_one (R := RNl) (y := x) (hnew _ _)
          have N4 := Lib.hid (And.intro (N3.out.1.keep hal) (And.intro (N3.out.2.1.keep hal) (And.intro (N3.out.2.2.1.keep hal) (And.intro N3.out.2.2.2 hone))))
          clear hal hone N3
          go_wp2_with fail
          refine ⟨N4.out.1, ?_⟩
          generalize V10.alloc (.cells #[.int .i64 x.id, .int .u32 (x.a : Int), .int .i64 x.ln] 60) = V11 at *
          generalize V10.heap.size = q11 at *
          refine held_one 9 (by kernel_rfl) ?_
          simp only [pick, List.getD_cons_zero, List.getD_cons_succ]
          go_wp2_with (at_builtin; refine halt ?_)
          refine Halted.go ?_
          refine Rep.append_cut TNl rfl _ _ rfl rfl N4.out.2.1 rfl N4.out.2.2.2.2 (by omega) (by unfold maxLen; omega) (by omega) ?_
          intro v12 V12 hown12 hb12
          have N5 := Lib.hid (And.intro hb12 (And.intro (N4.out.2.2.1.keep hb12) hown12))
          clear hown12 hb12
          go_wp2_with fail
          refine ⟨N4.out.1.keep N5.out.1, ?_⟩
          refine held_one 11 (by kernel_rfl) ?_
          simp only [pick, List.getD_cons_zero, List.getD_cons_succ]
          go_wp2_with (at_builtin; refine halt ?_)
          refine Halted.go ?_
          have hlt : (out.take k ++ [x]).length = k + 1 := by rw [List.length_append, List.length_take, G.out.2.2.2.2.1, List.length_singleton]; omega
          refine Rep.append_list TNl rfl _ _ rfl rfl N5.out.2.2 rfl N5.out.2.1 N4.out.2.2.2.1 (by rw [hlt]; unfold maxLen; omega) (by rw [hlt]; omega) N5.out.1.size ?_
          intro v13 V13 hown13 hb13 _
          have HIN := Lib.hid (show SrtI L (i + 1) (out.take k ++ [x] ++ out.drop k) from G.out.2.1.ins G.out.2.2.1 G.out.2.2.2.1 HF.out (by rw [G.out.2.2.2.2.1]; exact Nat.le_refl _) HUP.out)
          have N6 := Lib.hid (And.intro (N4.out.1.keep (N5.out.1.trans hb13)) (hown13.mono N4.out.1.old.size))
          clear hlt hown13 hb13 N5 N4
          go_wp2_with fail
          refine ⟨N6.out.1, ?_⟩
          refine held_one 12 (by kernel_rfl) ?_
          simp only [pick, List.getD_cons_zero, List.getD_cons_succ]
          go_wp2_with fail
          refine ⟨N6.out.1, ?_⟩
          refine wpAnyH_done (by kernel_rfl) ?_ _
          go_wp2_with fail
          exact ⟨⟨i + 1, _, HJ.out.1, by first | rw [HJ.out.2] | rw [Int.natCast_succ], N6.out.2, HIN.out, N6.out.1.old⟩, by first | (rw [HJ.out.2]; exact mSucc HJ.out.1) | (rw [← Int.natCast_succ]; exact mSucc HJ.out.1)⟩
    · obtain rfl : i = n := by omega
      have hil : ((i : Int) < (i : Int)) = False := by simp
      have G2 := Lib.hid (And.intro hown (And.intro hst hb))
      generalize out.length = m at *
      clear hown hst hb hsl hn0
      go_wp2_with fail
      go_ret
      refine ⟨_, rfl, ?_, G2.out.2.2⟩
      have hst := G2.out.2.1
      rw [F.out.2] at hst
      rw [← hst.all]
      exact G2.out.1
end Go.Proofs.YtadoflcomienoaaGreat

