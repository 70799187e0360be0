/- The reference's Over. -/
import Derived.Test.YtcbpdjenncbbeaaQaf
namespace Go.Proofs.Ytcbpdjenncbbeaa
open Go.RowKit

theorem own_ge {α : Type} [Inhabited α] {R : Rep α} {w : World} {base : Nat} {v : Value} {L : List α} (h : R.Own w base v L) {b : Nat} (hb : v.ownBlock = some b) : base ≤ b := by
  rcases h.2 with ⟨h2, _⟩ | ⟨g, cap, cur, hv2, hg, _⟩
  · rw [h2] at hb; cases hb
  · rw [hv2] at hb
    injection hb with hb
    dsimp only at hb
    omega
def ovE (P : List PKi) : Int := if okAll P = true ∧ (P.map keyP).Nodup then (if 1024 < P.length then 3 else 0) else 20
/-- the reference's totals in memory -/
structure RTot (w : World) (B x : Nat) (L : List KC) (rest : Int) : Prop where
  bx : ∃ v, w.heap[x]? = some (.cells #[v, .int .i64 rest] 39) ∧ RCt.Own w (x + 1) v L
  low : B ≤ x
theorem RTot.keep {w w' : World} {B x : Nat} {L : List KC} {rest : Int} (h : RTot w B x L rest) (hb : Below w.heap.size w w') : RTot w' B x L rest := by
  obtain ⟨⟨v, h1, h2⟩, h3⟩ := h
  exact ⟨⟨v, (hb.block _ (lt_of_blk h1)).trans h1, h2.below hb⟩, h3⟩
theorem insE_at {α : Type} {K : Nat × Nat} {v : α} : ∀ {L : List ((Nat × Nat) × α)} {k : Nat}, (∀ (a : Nat) (e : (Nat × Nat) × α), a < k → L[a]? = some e → ltK e.1 K) → k ≤ L.length → (∀ e : (Nat × Nat) × α, L[k]? = some e → ltK K e.1) → insE K v L = L.take k ++ [(K, v)] ++ L.drop k
  | [], k, _, hk, _ => by obtain rfl : k = 0 := by simpa using hk
                          rfl
  | e :: r, 0, _, _, h => by
    have h1 := h e rfl
    have h2 : ¬ ltK e.1 K := fun h3 => ltK_irrefl _ (ltK_trans h3 h1)
    have h3 : e.1 ≠ K := fun h3 => by rw [h3] at h1; exact ltK_irrefl _ h1
    simp [insE, h2, h3]
  | e :: r, k + 1, h, hk, h' => by
    have h1 := h 0 e (by omega) rfl
    simp only [insE, if_pos h1, List.take_succ_cons, List.drop_succ_cons, List.cons_append]
    rw [insE_at (k := k) (fun a e' ha he => h (a + 1) e' (by omega) (by simpa using he)) (by simpa using hk) (fun e' he => h' e' (by simpa using he))]
theorem cmpP_lt {z : Nat × Nat} {p : PKi} (h : p.2 = (p.2.toNat : Int)) : cmpP z.1 z.2 p.1 p.2 < 0 ↔ ltK z (keyP p) := by
  unfold cmpP ltK keyP
  dsimp only
  split
  · rename_i h1; simp; omega
  · split <;> (simp; omega)
theorem getD_some {α : Type} [Inhabited α] {L : List α} {a : Nat} {e : α} (h : L[a]? = some e) : L.getD a default = e := by rw [List.getD_eq_getElem?_getD, h]; rfl
theorem at_rangeP {W : World} {b o : Nat} {p : PKi} (h : RPk.At W b o p) : W.rangeAt b o (#[Value.int .u32 (p.1 : Int), .int .i64 p.2] : Array Value).toList := by
  intro j v hv
  have hj : j < 2 := (List.getElem?_eq_some_iff.1 hv).1
  exact (h j hj).trans hv
theorem at_rangeK {W : World} {b o : Nat} {z : KC} (h : RCt.At W b o z) : W.rangeAt b o (#[Value.int .u32 (z.1.1 : Int), .int .i64 (z.1.2 : Int)] : Array Value).toList := by
  intro j v hv
  have hj : j < 2 := (List.getElem?_eq_some_iff.1 hv).1
  refine (h j (Nat.lt_trans hj (by decide))).trans ?_
  match j, hj with
  | 0, _ => exact hv
  | 1, _ => exact hv
structure RtS (x : Nat) (v : Value) (b o : Nat) (p : PKi) (B : Nat) (W : World) : Prop where
  bx : W.heap[x]? = some (.cells #[v, .int .i64 0] 39)
  at' : RPk.At W b o p
  lx : x < B
  lt : b < B
  le : B ≤ W.heap.size
theorem RtS.keep {x : Nat} {v : Value} {b o : Nat} {p : PKi} {B : Nat} {W W' : World} (h : RtS x v b o p B W) (hb : Below W.heap.size W W') : RtS x v b o p B W' :=
  ⟨(hb.block _ (Nat.lt_of_lt_of_le h.lx h.le)).trans h.bx, h.at'.keep (hb.block _ (Nat.lt_of_lt_of_le h.lt h.le)), h.lx, h.lt, Nat.le_trans h.le hb.size⟩
theorem RtS.c0 {x : Nat} {v : Value} {b o : Nat} {p : PKi} {B : Nat} {W : World} (h : RtS x v b o p B W) : W.cell? ⟨x, 0, none⟩ = some v := cell_of h.bx rfl
structure RtD (x : Nat) (v : Value) (b o : Nat) (p : PKi) (g og : Nat) (z : KC) (B : Nat) (W : World) : Prop where
  s : RtS x v b o p B W
  at' : RCt.At W g og z
  lg : g < B
theorem RtD.keep {x : Nat} {v : Value} {b o : Nat} {p : PKi} {g og : Nat} {z : KC} {B : Nat} {W W' : World} (h : RtD x v b o p g og z B W) (hb : Below W.heap.size W W') : RtD x v b o p g og z B W' :=
  ⟨h.s.keep hb, h.at'.keep (hb.block _ (Nat.lt_of_lt_of_le h.lg h.s.le)), h.lg⟩
theorem okAll_take {P : List PKi} {i : Nat} (h : i < P.length) (k : okAll (P.take i) = true) (hp : okP (P.getD i default).1 (P.getD i default).2 = true) : okAll (P.take (i + 1)) = true := by
  rw [takeS h]; unfold okAll at *; rw [List.all_append, k]; simp only [List.all_cons, List.all_nil, hp, Bool.and_true]
theorem ovE_bad {P : List PKi} {i : Nat} (h : i < P.length) (hp : okP (P.getD i default).1 (P.getD i default).2 = false) : ovE P = 20 := by
  unfold ovE
  rw [if_neg]
  rintro ⟨h1, -⟩
  have h2 := List.all_eq_true.1 h1 _ (getD_mem h)
  rw [hp] at h2; cases h2
theorem ovE_dup {P : List PKi} {i : Nat} (h : i < P.length) (hp : keyP (P.getD i default) ∈ (P.take i).map keyP) : ovE P = 20 := by
  unfold ovE
  rw [if_neg]
  rintro ⟨-, h1⟩
  have h2 : P.take (i + 1) ++ P.drop (i + 1) = P := List.take_append_drop _ _
  rw [← h2, takeS h, List.map_append, List.map_append, List.nodup_append] at h1
  have h3 := h1.1
  rw [List.nodup_append] at h3
  exact h3.2.2 _ hp _ (by simp) rfl
theorem ovE_ok {P : List PKi} (h : okAll P = true) (k : (ovL P).length = P.length) : ovE P = if 1024 < P.length then 3 else 0 := by
  unfold ovE
  rw [if_pos ⟨h, (ovL_len P).2.1 k⟩]
set_option maxRecDepth 100000 in
set_option maxHeartbeats 16000000 in
theorem rover_any {w : World} {oa : Option Addr} {n c : Nat} {P : List PKi} (h : RPk.Sl w oa n c P) (ha : ∀ p ∈ P, p.1 < 4294967296) (hmx : n ≤ 16384) : Calls Try.prog 8 #[.slice oa n c] w fun e w' => ((ovE P ≠ 0 ∧ e = .returned (.tuple #[.pointer none, .int .i64 (ovE P)])) ∨ (ovE P = 0 ∧ ∃ x, e = .returned (.tuple #[.pointer (some ⟨x, 0, none⟩), .int .i64 0]) ∧ RTot w' w.heap.size x (ovL P) 0)) ∧ Below w.heap.size w w' := by
  have hal := (Below.refl w.heap.size w).alloc (Nat.le_refl _) (.cells #[.slice none 0 0, .int .i64 0] 39)
  have hx0 : (w.alloc (.cells #[.slice none 0 0, .int .i64 0] 39)).heap[w.heap.size]? = some (.cells #[.slice none 0 0, .int .i64 0] 39) := hnew _ _
  have F := Lib.hid (And.intro h (And.intro h.len ha))
  have F0 := Lib.hid (And.intro hal hx0)
  clear h ha hal hx0
  go_enter Try.func8, Try.ntmps8
  go_wp2_with fail
  generalize w.alloc (.cells #[.slice none 0 0, .int .i64 0] 39) = V0 at *
  obtain ⟨x, hx⟩ : ∃ x, w.heap.size = x := ⟨_, rfl⟩
  have HX := Lib.hid hx
  rw [hx] at F0 ⊢
  clear hx
  go_loopw [5] (fun iv wr => ∃ (i : Nat) (v : Value) (out : List KC), i ≤ n ∧ iv = .int .i64 i ∧ wr.heap[x]? = some (.cells #[v, .int .i64 0] 39) ∧ RCt.Own wr (x + 1) v out ∧ out = ovL (P.take i) ∧ okAll (P.take i) = true ∧ out.length = i ∧ Below x w wr) (fun iv _ => n - (intOf iv).toNat)
  case atStart => exact ⟨0, _, [], Nat.zero_le _, rfl, F0.out.2, Rep.Own.nil _ _, rfl, rfl, rfl, F0.out.1⟩
  case round =>
    obtain ⟨i, v, out, hi, rfl, hbx, hown, hout, hok, hlen, hb⟩ := hrel
    obtain ⟨w2, rfl⟩ : ∃ w2 : World, w2 = wr := ⟨_, rfl⟩
    obtain ⟨oc, cc, rfl, hsl, hn0⟩ := hown.sl0
    by_cases hlt : i < n
    · have hil : ((i : Int) < (n : Int)) = True := by simp; omega
      have hi0 : ((0 : Int) ≤ (i : Int)) = True := by simp
      have hwi := wrapS hlt (show n ≤ maxLen by unfold maxLen; omega)
      obtain ⟨b, o, rfl, hbb, hat⟩ := F.out.1.at hlt
      have hil2 : i < P.length := by have := F.out.2.1; omega
      have hpa := F.out.2.2 _ (getD_mem hil2)
      obtain ⟨p, hp⟩ : ∃ p, P.getD i default = p := ⟨_, rfl⟩
      rw [hp] at hat hpa
      rw [HX.out] at hbb
      have hxw := lt_of_blk hbx
      have hS : RtS x (.slice oc out.length cc) b (o + i * 2) p w2.heap.size w2 := ⟨hbx, hat.keep (hb.block _ hbb), hxw, Nat.lt_trans hbb hxw, Nat.le_refl _⟩
      have hnc : ∃ m, out.length = m ∧ m ≤ cc := by
        rcases hown.cases with ⟨e1, e2⟩ | ⟨g, cap, e1, h1, h2, h3, -⟩
        · injection e1 with e3 e4 e5
          exact ⟨0, by rw [e2]; rfl, Nat.zero_le _⟩
        · injection e1 with e3 e4 e5
          exact ⟨_, rfl, by rw [e5]; exact h3⟩
      obtain ⟨m, hm, hmc⟩ := hnc
      have HSO := Lib.hid (show (out.map (·.1)).Pairwise ltK from by rw [hout]; exact (ovL_sorted _).1)
      rw [hm] at hown hsl hS
      have hmm : m ≤ 16384 := by omega
      obtain ⟨c0, c1⟩ : w2.cell? ⟨b, o + i * 2, none⟩ = some (.int .u32 (p.1 : Int)) ∧ w2.cell? ⟨b, o + i * 2 + 1, none⟩ = some (.int .i64 p.2) := ⟨hS.at' 0 (by decide), hS.at' 1 (by decide)⟩
      have G := Lib.hid (And.intro hown (And.intro (And.intro hout (And.intro hok hlen)) (And.intro hil2 (And.intro hp (And.intro hm (And.intro hmc hn0))))))
      have GW := Lib.hid (And.intro hS (And.intro hsl hb))
      have HJ := Lib.hid (And.intro hlt hwi)
      have HC := Lib.hid (rcheck_any p.1 p.2 hpa)
      unfold pfx at HC
      obtain ⟨okb, hokb⟩ : ∃ okb, okP p.1 p.2 = okb := ⟨_, rfl⟩
      rw [hokb] at HC
      have HO := Lib.hid hokb
      clear hown hil2 hp hm hmc hn0 hS hsl hlt hat hbb hb hi hpa hout hok hlen hbx hxw hokb
      go_wp2_with fail
      refine (HC.out _).mono ?_
      rintro e W3 ⟨rfl, hb⟩
      have GX := Lib.hid (And.intro (GW.out.1.keep hb) (And.intro (GW.out.2.1.keep hb) (And.intro (bcall GW.out.2.2 (Nat.le_of_eq HX.out.symm) hb) (G.out.1.below hb))))
      have HB := Lib.hid hb
      clear hb c0 c1 HC
      cases okb with
      | false =>
        go_wp2_with fail
        go_ret2
        have hX := HX.out
        subst hX
        have he := ovE_bad G.out.2.2.1 (by rw [G.out.2.2.2.1]; exact HO.out)
        exact ⟨.inl ⟨by rw [he]; decide, by rw [he]; rfl⟩, GX.out.2.2.1⟩
      | true =>
        have HPK := Lib.hid (okP_key (show p.1 < 4294967296 from by have := F.out.2.2 _ (getD_mem G.out.2.2.1); rwa [G.out.2.2.2.1] at this) HO.out).2
        go_wp2_with fail
        go_loopw [6] (fun kv wr => ∃ k : Nat, k ≤ m ∧ kv = .int .i64 k ∧ (∀ a, a < k → ltK (out.getD a default).1 (keyP p)) ∧ Below W3.heap.size W3 wr) (fun kv _ => m - (intOf kv).toNat)
        case atStart => exact ⟨0, Nat.zero_le _, rfl, fun a ha => absurd ha (Nat.not_lt_zero _), Below.refl _ _⟩
        case round =>
          obtain ⟨k, hk, rfl, hlow, hb⟩ := hrel
          obtain ⟨w5, rfl⟩ : ∃ w5 : World, w5 = wr := ⟨_, rfl⟩
          have hk0 : ((0 : Int) ≤ (k : Int)) = True := by simp
          by_cases hkm : k < m
          · have hkt : ((k : Int) < (m : Int)) = True := by simp; omega
            have hwk := wrapS hkm (show m ≤ maxLen by unfold maxLen; omega)
            obtain ⟨g, og, e, hgl, hat⟩ := GX.out.2.1.at hkm
            have hgl2 : g < w2.heap.size := by
              rcases G.out.1.cases with ⟨e1, e2⟩ | ⟨g', cap, e1, h1, h2, -⟩
              · injection e1 with e3 e4 e5; omega
              · injection e1 with e3 e4 e5; rw [e] at e3; injection e3 with e3; injection e3 with e3; omega
            subst e
            obtain ⟨z, hz⟩ : ∃ z, out.getD k default = z := ⟨_, rfl⟩
            rw [hz] at hat
            have hd := (Below.refl w5.heap.size w5).drew
            have hb5 := bcall hb (Nat.le_refl _) hd
            have K := Lib.hid (And.intro (show RtD x (.slice (some ⟨g, og, none⟩) m cc) b (o + i * 2) p g (og + k * 3) z w2.heap.size w5.drew from RtD.keep ⟨GX.out.1, hat, hgl2⟩ hb5) hb5)
            have HF := Lib.hid (And.intro hlow (And.intro hz (And.intro hgl2 hkm)))
            have HC := Lib.hid (rcompare_any z.1.1 z.1.2 p.1 p.2)
            have hcl := cmpP_lt (z := z.1) HPK.out
            unfold pfx at HC
            generalize cmpP z.1.1 z.1.2 p.1 p.2 = cv at *
            clear hb hlow hz hat hd hgl hgl2 hb5
            go_wp2_with fail
            refine wp_region_heldP (RtD x (.slice (some ⟨g, og, none⟩) m cc) b (o + i * 2) p g (og + k * 3) z w2.heap.size) (by kernel_rfl) ?_
            generalize w5.drew = V at *
            refine held_reads [0, 1, 2, 3, 4, 5, 6, 7, 8, 9, 10, 11, 12, 13, 14, 15, 16, 17, 18, 19] (g := 3) rfl (by kernel_rfl) K.out.1 (fun _ _ d _ _ h => by cases d <;> exact h) ?_
            simp only [pick, List.getD_cons_zero, List.getD_cons_succ]
            ((with_reducible refine wpRead_step (fun K hK => ?_)); go_simp; first | ((with_reducible refine hK _ ?_); clear hK K) | (apply Exists.intro; (with_reducible refine ⟨fun w' hw' => ?_, hK _ ?_⟩); ((have f0 := hw'.s.c0; go_simp; first | exact rfl | exact ⟨rfl, rfl⟩)); clear hK K))
            ((with_reducible refine wpRead_step (fun K hK => ?_)); go_simp; first | ((with_reducible refine hK _ ?_); clear hK K) | (apply Exists.intro; (with_reducible refine ⟨fun w' hw' => ?_, hK _ ?_⟩); ((have f0 := hw'.s.c0; go_simp; first | exact rfl | exact ⟨rfl, rfl⟩)); clear hK K))
            ((with_reducible refine wpRead_step (fun K hK => ?_)); go_simp; first | ((with_reducible refine hK _ ?_); clear hK K) | (apply Exists.intro; (with_reducible refine ⟨fun w' hw' => ?_, hK _ ?_⟩); ((have f0 := hw'.s.c0; go_simp; first | exact rfl | exact ⟨rfl, rfl⟩)); clear hK K))
            ((with_reducible refine wpRead_step (fun K hK => ?_)); go_simp; first | ((with_reducible refine hK _ ?_); clear hK K) | (apply Exists.intro; (with_reducible refine ⟨fun w' hw' => ?_, hK _ ?_⟩); ((have f0 := hw'.s.c0; go_simp; first | exact rfl | exact ⟨rfl, rfl⟩)); clear hK K))
            ((with_reducible refine wpRead_step (fun K hK => ?_)); go_simp; first | ((with_reducible refine hK _ ?_); clear hK K) | (apply Exists.intro; (with_reducible refine ⟨fun w' hw' => ?_, hK _ ?_⟩); ((have f0 := hw'.s.c0; go_simp; first | exact rfl | exact ⟨rfl, rfl⟩)); clear hK K))
            ((with_reducible refine wpRead_step (fun K hK => ?_)); go_simp; first | ((with_reducible refine hK _ ?_); clear hK K) | (apply Exists.intro; (with_reducible refine ⟨fun w' hw' => ?_, hK _ ?_⟩); ((have f0 := hw'.s.c0; go_simp; first | exact rfl | exact ⟨rfl, rfl⟩)); clear hK K))
            ((with_reducible refine wpRead_step (fun K hK => ?_)); go_simp; first | ((with_reducible refine hK _ ?_); clear hK K) | (apply Exists.intro; (with_reducible refine ⟨fun w' hw' => ?_, hK _ ?_⟩); ((have f0 := hw'.s.c0; go_simp; first | exact rfl | exact ⟨rfl, rfl⟩)); clear hK K))
            ((with_reducible refine wpRead_step (fun K hK => ?_)); go_simp; first | ((with_reducible refine hK _ ?_); clear hK K) | (apply Exists.intro; (with_reducible refine ⟨fun w' hw' => ?_, hK _ ?_⟩); ((have f0 := hw'.s.c0; go_simp; first | exact rfl | exact ⟨rfl, rfl⟩)); clear hK K))
            ((with_reducible refine wpRead_step (fun K hK => ?_)); go_simp; first | ((with_reducible refine hK _ ?_); clear hK K) | (apply Exists.intro; (with_reducible refine ⟨fun w' hw' => ?_, hK _ ?_⟩); ((have f0 := hw'.s.c0; go_simp; first | exact rfl | exact ⟨rfl, rfl⟩)); clear hK K))
            ((with_reducible refine wpRead_step (fun K hK => ?_)); go_simp; first | ((with_reducible refine hK _ ?_); clear hK K) | (apply Exists.intro; (with_reducible refine ⟨fun w' hw' => ?_, hK _ ?_⟩); ((have f0 := hw'.s.c0; go_simp; first | exact rfl | exact ⟨rfl, rfl⟩)); clear hK K))
            ((with_reducible refine wpRead_step (fun K hK => ?_)); go_simp; first | ((with_reducible refine hK _ ?_); clear hK K) | (apply Exists.intro; (with_reducible refine ⟨fun w' hw' => ?_, hK _ ?_⟩); ((have f0 := hw'.s.c0; go_simp; first | exact rfl | exact ⟨rfl, rfl⟩)); clear hK K))
            ((with_reducible refine wpRead_step (fun K hK => ?_)); go_simp; first | ((with_reducible refine hK _ ?_); clear hK K) | (apply Exists.intro; (with_reducible refine ⟨fun w' hw' => ?_, hK _ ?_⟩); ((have f0 := hw'.s.c0; go_simp; first | exact rfl | exact ⟨rfl, rfl⟩)); clear hK K))
            ((with_reducible refine wpRead_step (fun K hK => ?_)); go_simp; first | ((with_reducible refine hK _ ?_); clear hK K) | (apply Exists.intro; (with_reducible refine ⟨fun w' hw' => ?_, hK _ ?_⟩); ((have f0 := hw'.s.c0; go_simp; first | exact rfl | exact ⟨rfl, rfl⟩)); clear hK K))
            ((with_reducible refine wpRead_step (fun K hK => ?_)); go_simp; first | ((with_reducible refine hK _ ?_); clear hK K) | (apply Exists.intro; (with_reducible refine ⟨fun w' hw' => ?_, hK _ ?_⟩); ((have f0 := hw'.s.c0; go_simp; first | exact rfl | exact ⟨rfl, rfl⟩)); clear hK K))
            ((with_reducible refine wpRead_step (fun K hK => ?_)); go_simp; first | ((with_reducible refine hK _ ?_); clear hK K) | (apply Exists.intro; (with_reducible refine ⟨fun w' hw' => ?_, hK _ ?_⟩); ((have f0 := hw'.s.c0; go_simp; first | exact rfl | exact ⟨rfl, rfl⟩)); clear hK K))
            with_reducible refine wpRead_yes ?_ ?_
            rotate_left
            rfl
            intro K hK
            refine read_load 46 _ rfl g (og + k * 3) #[.int .u32 (z.1.1 : Int), .int .i64 (z.1.2 : Int)] rfl (fun w' hw' => at_rangeK hw'.at') Try.underlying46 rfl (by kernel_rfl) (hK _ ?_)
            clear hK K
            ((with_reducible refine wpRead_step (fun K hK => ?_)); go_simp; first | ((with_reducible refine hK _ ?_); clear hK K) | (apply Exists.intro; (with_reducible refine ⟨fun w' hw' => ?_, hK _ ?_⟩); ((have f0 := hw'.s.c0; go_simp; first | exact rfl | exact ⟨rfl, rfl⟩)); clear hK K))
            ((with_reducible refine wpRead_step (fun K hK => ?_)); go_simp; first | ((with_reducible refine hK _ ?_); clear hK K) | (apply Exists.intro; (with_reducible refine ⟨fun w' hw' => ?_, hK _ ?_⟩); ((have f0 := hw'.s.c0; go_simp; first | exact rfl | exact ⟨rfl, rfl⟩)); clear hK K))
            ((with_reducible refine wpRead_step (fun K hK => ?_)); go_simp; first | ((with_reducible refine hK _ ?_); clear hK K) | (apply Exists.intro; (with_reducible refine ⟨fun w' hw' => ?_, hK _ ?_⟩); ((have f0 := hw'.s.c0; go_simp; first | exact rfl | exact ⟨rfl, rfl⟩)); clear hK K))
            with_reducible refine wpRead_yes ?_ ?_
            rotate_left
            rfl
            intro K hK
            refine read_load 46 _ rfl b (o + i * 2) #[.int .u32 (p.1 : Int), .int .i64 p.2] rfl (fun w' hw' => at_rangeP hw'.s.at') Try.underlying46 rfl (by kernel_rfl) (hK _ ?_)
            clear hK K
            with_reducible refine wpRead_nil ?_
            refine held_one 20 (by kernel_rfl) ?_
            simp only [pick, List.getD_cons_zero, List.getD_cons_succ]
            go_wp2_with fail
            refine (HC.out _).mono ?_
            rintro e V2 ⟨rfl, hb⟩
            have K3 := Lib.hid (And.intro (K.out.1.keep hb) (bcall K.out.2 (Nat.le_refl _) hb))
            clear hb
            go_wp2_with fail
            refine ⟨K3.out.1, ?_⟩
            by_cases hlz : ltK z.1 (keyP p)
            · have hcv : (cv < 0) = True := eq_true (hcl.2 hlz)
              have HN := Lib.hid (show ∀ a, a < k + 1 → ltK (out.getD a default).1 (keyP p) from fun a ha => by
                by_cases e : a = k
                · rw [e, HF.out.2.1]; exact hlz
                · exact HF.out.1 a (by omega))
              clear hcl hlz
              refine held_reads [21, 22] (g := 0) rfl (by kernel_rfl) K3.out.1 (fun _ _ d _ _ h => by cases d <;> exact h) ?_
              simp only [pick, List.getD_cons_zero, List.getD_cons_succ]
              ((with_reducible refine wpRead_step (fun K hK => ?_)); go_simp; first | ((with_reducible refine hK _ ?_); clear hK K) | (apply Exists.intro; (with_reducible refine ⟨fun w' hw' => ?_, hK _ ?_⟩); (first | exact rfl | exact ⟨rfl, rfl⟩); clear hK K))
              ((with_reducible refine wpRead_step (fun K hK => ?_)); go_simp; first | ((with_reducible refine hK _ ?_); clear hK K) | (apply Exists.intro; (with_reducible refine ⟨fun w' hw' => ?_, hK _ ?_⟩); (first | exact rfl | exact ⟨rfl, rfl⟩); clear hK K))
              with_reducible refine wpRead_nil ?_
              refine wpAnyH_done (by kernel_rfl) ?_ _
              go_wp2_with fail
              exact ⟨⟨k + 1, hkm, by first | rw [hwk] | rw [Int.natCast_succ], HN.out, K3.out.2⟩, by first | (rw [hwk]; exact mSucc hkm) | (rw [← Int.natCast_succ]; exact mSucc hkm)⟩
            · have hcv : (cv < 0) = False := eq_false (fun h => hlz (hcl.1 h))
              have HZ := Lib.hid hlz
              clear hcl hlz
              refine held_reads [21, 22] (g := 0) rfl (by kernel_rfl) K3.out.1 (fun _ _ d _ _ h => by cases d <;> exact h) ?_
              simp only [pick, List.getD_cons_zero, List.getD_cons_succ]
              ((with_reducible refine wpRead_step (fun K hK => ?_)); go_simp; first | ((with_reducible refine hK _ ?_); clear hK K) | (apply Exists.intro; (with_reducible refine ⟨fun w' hw' => ?_, hK _ ?_⟩); (first | exact rfl | exact ⟨rfl, rfl⟩); clear hK K))
              ((with_reducible refine wpRead_step (fun K hK => ?_)); go_simp; first | ((with_reducible refine hK _ ?_); clear hK K) | (apply Exists.intro; (with_reducible refine ⟨fun w' hw' => ?_, hK _ ?_⟩); (first | exact rfl | exact ⟨rfl, rfl⟩); clear hK K))
              with_reducible refine wpRead_nil ?_
              refine wpAnyH_done (by kernel_rfl) ?_ _
              have KW := Lib.hid (And.intro K3.out.1 (And.intro (GX.out.2.2.2.below K3.out.2) (And.intro (bcall GX.out.2.2.1 (Nat.le_of_eq HX.out.symm) K3.out.2) (GX.out.2.1.keep K3.out.2))))
              clear K3 K
              go_wp2_with fail
              refine wp_region_heldP (RtD x (.slice (some ⟨g, og, none⟩) m cc) b (o + i * 2) p g (og + k * 3) z w2.heap.size) (by kernel_rfl) ?_
              have hd := (Below.refl V2.heap.size V2).drew
              have KY := Lib.hid (And.intro (KW.out.1.keep hd) (And.intro (KW.out.2.1.below hd) (And.intro (bcall KW.out.2.2.1 (Nat.le_of_eq HX.out.symm) hd) (KW.out.2.2.2.keep hd))))
              clear hd KW
              generalize V2.drew = V7 at *
              by_cases hzx : z.1 = keyP p
              · have e1 : (z.1.1 : Int) = (p.1 : Int) := by rw [hzx]; rfl
                have e2 : (z.1.2 : Int) = p.2 := by rw [hzx, HPK.out]; rfl
                have HDU := Lib.hid (ovE_dup G.out.2.2.1 (by
                  rw [G.out.2.2.2.1, ← (ovL_sorted _).2.1, ← G.out.2.1.1, ← hzx, ← HF.out.2.1]
                  exact List.mem_map.2 ⟨_, getD_mem (by rw [G.out.2.2.2.2.1]; exact HF.out.2.2.2), rfl⟩))
                clear hzx
                refine held_reads [0, 1, 2, 3, 4, 5, 6, 7, 8, 9, 10, 11, 12, 13, 14, 15, 16, 17, 18, 19, 20, 21] (g := 0) rfl (by kernel_rfl) KY.out.1 (fun _ _ d _ _ h => by cases d <;> exact h) ?_
                simp only [pick, List.getD_cons_zero, List.getD_cons_succ]
                ((with_reducible refine wpRead_step (fun K hK => ?_)); go_simp; first | ((with_reducible refine hK _ ?_); clear hK K) | (apply Exists.intro; (with_reducible refine ⟨fun w' hw' => ?_, hK _ ?_⟩); ((have f0 := hw'.s.c0; go_simp; first | exact rfl | exact ⟨rfl, rfl⟩)); clear hK K))
                ((with_reducible refine wpRead_step (fun K hK => ?_)); go_simp; first | ((with_reducible refine hK _ ?_); clear hK K) | (apply Exists.intro; (with_reducible refine ⟨fun w' hw' => ?_, hK _ ?_⟩); ((have f0 := hw'.s.c0; go_simp; first | exact rfl | exact ⟨rfl, rfl⟩)); clear hK K))
                ((with_reducible refine wpRead_step (fun K hK => ?_)); go_simp; first | ((with_reducible refine hK _ ?_); clear hK K) | (apply Exists.intro; (with_reducible refine ⟨fun w' hw' => ?_, hK _ ?_⟩); ((have f0 := hw'.s.c0; go_simp; first | exact rfl | exact ⟨rfl, rfl⟩)); clear hK K))
                ((with_reducible refine wpRead_step (fun K hK => ?_)); go_simp; first | ((with_reducible refine hK _ ?_); clear hK K) | (apply Exists.intro; (with_reducible refine ⟨fun w' hw' => ?_, hK _ ?_⟩); ((have f0 := hw'.s.c0; go_simp; first | exact rfl | exact ⟨rfl, rfl⟩)); clear hK K))
                ((with_reducible refine wpRead_step (fun K hK => ?_)); go_simp; first | ((with_reducible refine hK _ ?_); clear hK K) | (apply Exists.intro; (with_reducible refine ⟨fun w' hw' => ?_, hK _ ?_⟩); ((have f0 := hw'.s.c0; go_simp; first | exact rfl | exact ⟨rfl, rfl⟩)); clear hK K))
                ((with_reducible refine wpRead_step (fun K hK => ?_)); go_simp; first | ((with_reducible refine hK _ ?_); clear hK K) | (apply Exists.intro; (with_reducible refine ⟨fun w' hw' => ?_, hK _ ?_⟩); ((have f0 := hw'.s.c0; go_simp; first | exact rfl | exact ⟨rfl, rfl⟩)); clear hK K))
                ((with_reducible refine wpRead_step (fun K hK => ?_)); go_simp; first | ((with_reducible refine hK _ ?_); clear hK K) | (apply Exists.intro; (with_reducible refine ⟨fun w' hw' => ?_, hK _ ?_⟩); ((have f0 := hw'.s.c0; go_simp; first | exact rfl | exact ⟨rfl, rfl⟩)); clear hK K))
                ((with_reducible refine wpRead_step (fun K hK => ?_)); go_simp; first | ((with_reducible refine hK _ ?_); clear hK K) | (apply Exists.intro; (with_reducible refine ⟨fun w' hw' => ?_, hK _ ?_⟩); ((have f0 := hw'.s.c0; go_simp; first | exact rfl | exact ⟨rfl, rfl⟩)); clear hK K))
                ((with_reducible refine wpRead_step (fun K hK => ?_)); go_simp; first | ((with_reducible refine hK _ ?_); clear hK K) | (apply Exists.intro; (with_reducible refine ⟨fun w' hw' => ?_, hK _ ?_⟩); ((have f0 := hw'.s.c0; go_simp; first | exact rfl | exact ⟨rfl, rfl⟩)); clear hK K))
                ((with_reducible refine wpRead_step (fun K hK => ?_)); go_simp; first | ((with_reducible refine hK _ ?_); clear hK K) | (apply Exists.intro; (with_reducible refine ⟨fun w' hw' => ?_, hK _ ?_⟩); ((have f0 := hw'.s.c0; go_simp; first | exact rfl | exact ⟨rfl, rfl⟩)); clear hK K))
                ((with_reducible refine wpRead_step (fun K hK => ?_)); go_simp; first | ((with_reducible refine hK _ ?_); clear hK K) | (apply Exists.intro; (with_reducible refine ⟨fun w' hw' => ?_, hK _ ?_⟩); ((have f0 := hw'.s.c0; go_simp; first | exact rfl | exact ⟨rfl, rfl⟩)); clear hK K))
                ((with_reducible refine wpRead_step (fun K hK => ?_)); go_simp; first | ((with_reducible refine hK _ ?_); clear hK K) | (apply Exists.intro; (with_reducible refine ⟨fun w' hw' => ?_, hK _ ?_⟩); ((have f0 := hw'.s.c0; go_simp; first | exact rfl | exact ⟨rfl, rfl⟩)); clear hK K))
                ((with_reducible refine wpRead_step (fun K hK => ?_)); go_simp; first | ((with_reducible refine hK _ ?_); clear hK K) | (apply Exists.intro; (with_reducible refine ⟨fun w' hw' => ?_, hK _ ?_⟩); ((have f0 := hw'.s.c0; go_simp; first | exact rfl | exact ⟨rfl, rfl⟩)); clear hK K))
                ((with_reducible refine wpRead_step (fun K hK => ?_)); go_simp; first | ((with_reducible refine hK _ ?_); clear hK K) | (apply Exists.intro; (with_reducible refine ⟨fun w' hw' => ?_, hK _ ?_⟩); ((have f0 := hw'.s.c0; go_simp; first | exact rfl | exact ⟨rfl, rfl⟩)); clear hK K))
                ((with_reducible refine wpRead_step (fun K hK => ?_)); go_simp; first | ((with_reducible refine hK _ ?_); clear hK K) | (apply Exists.intro; (with_reducible refine ⟨fun w' hw' => ?_, hK _ ?_⟩); ((have f0 := hw'.s.c0; go_simp; first | exact rfl | exact ⟨rfl, rfl⟩)); clear hK K))
                with_reducible refine wpRead_yes ?_ ?_
                rotate_left
                rfl
                intro K hK
                refine read_load 46 _ rfl g (og + k * 3) #[.int .u32 (z.1.1 : Int), .int .i64 (z.1.2 : Int)] rfl (fun w' hw' => at_rangeK hw'.at') Try.underlying46 rfl (by kernel_rfl) (hK _ ?_)
                clear hK K
                ((with_reducible refine wpRead_step (fun K hK => ?_)); go_simp; first | ((with_reducible refine hK _ ?_); clear hK K) | (apply Exists.intro; (with_reducible refine ⟨fun w' hw' => ?_, hK _ ?_⟩); ((have f0 := hw'.s.c0; go_simp; first | exact rfl | exact ⟨rfl, rfl⟩)); clear hK K))
                ((with_reducible refine wpRead_step (fun K hK => ?_)); go_simp; first | ((with_reducible refine hK _ ?_); clear hK K) | (apply Exists.intro; (with_reducible refine ⟨fun w' hw' => ?_, hK _ ?_⟩); ((have f0 := hw'.s.c0; go_simp; first | exact rfl | exact ⟨rfl, rfl⟩)); clear hK K))
                ((with_reducible refine wpRead_step (fun K hK => ?_)); go_simp; first | ((with_reducible refine hK _ ?_); clear hK K) | (apply Exists.intro; (with_reducible refine ⟨fun w' hw' => ?_, hK _ ?_⟩); ((have f0 := hw'.s.c0; go_simp; first | exact rfl | exact ⟨rfl, rfl⟩)); clear hK K))
                with_reducible refine wpRead_yes ?_ ?_
                rotate_left
                rfl
                intro K hK
                refine read_load 46 _ rfl b (o + i * 2) #[.int .u32 (p.1 : Int), .int .i64 p.2] rfl (fun w' hw' => at_rangeP hw'.s.at') Try.underlying46 rfl (by kernel_rfl) (hK _ ?_)
                clear hK K
                ((with_reducible refine wpRead_step (fun K hK => ?_)); go_simp; first | ((with_reducible refine hK _ ?_); clear hK K) | (apply Exists.intro; (with_reducible refine ⟨fun w' hw' => ?_, hK _ ?_⟩); (first | exact rfl | exact ⟨rfl, rfl⟩); clear hK K))
                ((with_reducible refine wpRead_step (fun K hK => ?_)); go_simp; first | ((with_reducible refine hK _ ?_); clear hK K) | (apply Exists.intro; (with_reducible refine ⟨fun w' hw' => ?_, hK _ ?_⟩); (first | exact rfl | exact ⟨rfl, rfl⟩); clear hK K))
                with_reducible refine wpRead_nil ?_
                refine wpAnyH_done (by kernel_rfl) ?_ _
                go_wp2_with fail
                go_ret2
                have hX := HX.out
                subst hX
                exact ⟨.inl ⟨by rw [HDU.out]; decide, by rw [HDU.out]; rfl⟩, KY.out.2.2.1⟩
              · have HUP := Lib.hid (show ∀ e : KC, out[k]? = some e → ltK (keyP p) e.1 from fun e he => by
                  have h1 := getD_some he
                  rw [HF.out.2.1] at h1
                  rw [← h1]
                  exact ltK_or HZ.out hzx)
                have hne : ((z.1.1 : Int) = (p.1 : Int) ∧ ((z.1.2 : Int) == p.2) = false) ∨ ((z.1.1 : Int) == (p.1 : Int)) = false := by
                  by_cases e : z.1.1 = p.1
                  · refine .inl ⟨by rw [e], ?_⟩
                    rw [beq_eq_false_iff_ne]
                    intro e2
                    exact hzx (Prod.ext e (by show z.1.2 = p.2.toNat; omega))
                  · exact .inr (by rw [beq_eq_false_iff_ne]; omega)
                rcases hne with ⟨e1, e2⟩ | e1
                all_goals
                  clear hzx
                  refine held_reads [0, 1, 2, 3, 4, 5, 6, 7, 8, 9, 10, 11, 12, 13, 14, 15, 16, 17, 18, 19, 20, 21] (g := 0) rfl (by kernel_rfl) KY.out.1 (fun _ _ d _ _ h => by cases d <;> exact h) ?_
                  simp only [pick, List.getD_cons_zero, List.getD_cons_succ]
                  ((with_reducible refine wpRead_step (fun K hK => ?_)); go_simp; first | ((with_reducible refine hK _ ?_); clear hK K) | (apply Exists.intro; (with_reducible refine ⟨fun w' hw' => ?_, hK _ ?_⟩); ((have f0 := hw'.s.c0; go_simp; first | exact rfl | exact ⟨rfl, rfl⟩)); clear hK K))
                  ((with_reducible refine wpRead_step (fun K hK => ?_)); go_simp; first | ((with_reducible refine hK _ ?_); clear hK K) | (apply Exists.intro; (with_reducible refine ⟨fun w' hw' => ?_, hK _ ?_⟩); ((have f0 := hw'.s.c0; go_simp; first | exact rfl | exact ⟨rfl, rfl⟩)); clear hK K))
                  ((with_reducible refine wpRead_step (fun K hK => ?_)); go_simp; first | ((with_reducible refine hK _ ?_); clear hK K) | (apply Exists.intro; (with_reducible refine ⟨fun w' hw' => ?_, hK _ ?_⟩); ((have f0 := hw'.s.c0; go_simp; first | exact rfl | exact ⟨rfl, rfl⟩)); clear hK K))
                  ((with_reducible refine wpRead_step (fun K hK => ?_)); go_simp; first | ((with_reducible refine hK _ ?_); clear hK K) | (apply Exists.intro; (with_reducible refine ⟨fun w' hw' => ?_, hK _ ?_⟩); ((have f0 := hw'.s.c0; go_simp; first | exact rfl | exact ⟨rfl, rfl⟩)); clear hK K))
                  ((with_reducible refine wpRead_step (fun K hK => ?_)); go_simp; first | ((with_reducible refine hK _ ?_); clear hK K) | (apply Exists.intro; (with_reducible refine ⟨fun w' hw' => ?_, hK _ ?_⟩); ((have f0 := hw'.s.c0; go_simp; first | exact rfl | exact ⟨rfl, rfl⟩)); clear hK K))
                  ((with_reducible refine wpRead_step (fun K hK => ?_)); go_simp; first | ((with_reducible refine hK _ ?_); clear hK K) | (apply Exists.intro; (with_reducible refine ⟨fun w' hw' => ?_, hK _ ?_⟩); ((have f0 := hw'.s.c0; go_simp; first | exact rfl | exact ⟨rfl, rfl⟩)); clear hK K))
                  ((with_reducible refine wpRead_step (fun K hK => ?_)); go_simp; first | ((with_reducible refine hK _ ?_); clear hK K) | (apply Exists.intro; (with_reducible refine ⟨fun w' hw' => ?_, hK _ ?_⟩); ((have f0 := hw'.s.c0; go_simp; first | exact rfl | exact ⟨rfl, rfl⟩)); clear hK K))
                  ((with_reducible refine wpRead_step (fun K hK => ?_)); go_simp; first | ((with_reducible refine hK _ ?_); clear hK K) | (apply Exists.intro; (with_reducible refine ⟨fun w' hw' => ?_, hK _ ?_⟩); ((have f0 := hw'.s.c0; go_simp; first | exact rfl | exact ⟨rfl, rfl⟩)); clear hK K))
                  ((with_reducible refine wpRead_step (fun K hK => ?_)); go_simp; first | ((with_reducible refine hK _ ?_); clear hK K) | (apply Exists.intro; (with_reducible refine ⟨fun w' hw' => ?_, hK _ ?_⟩); ((have f0 := hw'.s.c0; go_simp; first | exact rfl | exact ⟨rfl, rfl⟩)); clear hK K))
                  ((with_reducible refine wpRead_step (fun K hK => ?_)); go_simp; first | ((with_reducible refine hK _ ?_); clear hK K) | (apply Exists.intro; (with_reducible refine ⟨fun w' hw' => ?_, hK _ ?_⟩); ((have f0 := hw'.s.c0; go_simp; first | exact rfl | exact ⟨rfl, rfl⟩)); clear hK K))
                  ((with_reducible refine wpRead_step (fun K hK => ?_)); go_simp; first | ((with_reducible refine hK _ ?_); clear hK K) | (apply Exists.intro; (with_reducible refine ⟨fun w' hw' => ?_, hK _ ?_⟩); ((have f0 := hw'.s.c0; go_simp; first | exact rfl | exact ⟨rfl, rfl⟩)); clear hK K))
                  ((with_reducible refine wpRead_step (fun K hK => ?_)); go_simp; first | ((with_reducible refine hK _ ?_); clear hK K) | (apply Exists.intro; (with_reducible refine ⟨fun w' hw' => ?_, hK _ ?_⟩); ((have f0 := hw'.s.c0; go_simp; first | exact rfl | exact ⟨rfl, rfl⟩)); clear hK K))
                  ((with_reducible refine wpRead_step (fun K hK => ?_)); go_simp; first | ((with_reducible refine hK _ ?_); clear hK K) | (apply Exists.intro; (with_reducible refine ⟨fun w' hw' => ?_, hK _ ?_⟩); ((have f0 := hw'.s.c0; go_simp; first | exact rfl | exact ⟨rfl, rfl⟩)); clear hK K))
                  ((with_reducible refine wpRead_step (fun K hK => ?_)); go_simp; first | ((with_reducible refine hK _ ?_); clear hK K) | (apply Exists.intro; (with_reducible refine ⟨fun w' hw' => ?_, hK _ ?_⟩); ((have f0 := hw'.s.c0; go_simp; first | exact rfl | exact ⟨rfl, rfl⟩)); clear hK K))
                  ((with_reducible refine wpRead_step (fun K hK => ?_)); go_simp; first | ((with_reducible refine hK _ ?_); clear hK K) | (apply Exists.intro; (with_reducible refine ⟨fun w' hw' => ?_, hK _ ?_⟩); ((have f0 := hw'.s.c0; go_simp; first | exact rfl | exact ⟨rfl, rfl⟩)); clear hK K))
                  with_reducible refine wpRead_yes ?_ ?_
                  rotate_left
                  rfl
                  intro K hK
                  refine read_load 46 _ rfl g (og + k * 3) #[.int .u32 (z.1.1 : Int), .int .i64 (z.1.2 : Int)] rfl (fun w' hw' => at_rangeK hw'.at') Try.underlying46 rfl (by kernel_rfl) (hK _ ?_)
                  clear hK K
                  ((with_reducible refine wpRead_step (fun K hK => ?_)); go_simp; first | ((with_reducible refine hK _ ?_); clear hK K) | (apply Exists.intro; (with_reducible refine ⟨fun w' hw' => ?_, hK _ ?_⟩); ((have f0 := hw'.s.c0; go_simp; first | exact rfl | exact ⟨rfl, rfl⟩)); clear hK K))
                  ((with_reducible refine wpRead_step (fun K hK => ?_)); go_simp; first | ((with_reducible refine hK _ ?_); clear hK K) | (apply Exists.intro; (with_reducible refine ⟨fun w' hw' => ?_, hK _ ?_⟩); ((have f0 := hw'.s.c0; go_simp; first | exact rfl | exact ⟨rfl, rfl⟩)); clear hK K))
                  ((with_reducible refine wpRead_step (fun K hK => ?_)); go_simp; first | ((with_reducible refine hK _ ?_); clear hK K) | (apply Exists.intro; (with_reducible refine ⟨fun w' hw' => ?_, hK _ ?_⟩); ((have f0 := hw'.s.c0; go_simp; first | exact rfl | exact ⟨rfl, rfl⟩)); clear hK K))
                  with_reducible refine wpRead_yes ?_ ?_
                  rotate_left
                  rfl
                  intro K hK
                  refine read_load 46 _ rfl b (o + i * 2) #[.int .u32 (p.1 : Int), .int .i64 p.2] rfl (fun w' hw' => at_rangeP hw'.s.at') Try.underlying46 rfl (by kernel_rfl) (hK _ ?_)
                  clear hK K
                  ((with_reducible refine wpRead_step (fun K hK => ?_)); go_simp; first | ((with_reducible refine hK _ ?_); clear hK K) | (apply Exists.intro; (with_reducible refine ⟨fun w' hw' => ?_, hK _ ?_⟩); (first | exact rfl | exact ⟨rfl, rfl⟩); clear hK K))
                  ((with_reducible refine wpRead_step (fun K hK => ?_)); go_simp; first | ((with_reducible refine hK _ ?_); clear hK K) | (apply Exists.intro; (with_reducible refine ⟨fun w' hw' => ?_, hK _ ?_⟩); (first | exact rfl | exact ⟨rfl, rfl⟩); clear hK K))
                  with_reducible refine wpRead_nil ?_
                  refine wpAnyH_done (by kernel_rfl) ?_ _
                  obtain ⟨sa, hr1, hr2, hst, hsn, -⟩ := Rep.cut_from TCt KY.out.2.2.2 G.out.2.2.2.2.2.1 G.out.2.2.2.2.2.2 (i := k) (Nat.le_of_lt HF.out.2.2.2)
                  obtain ⟨sk, hq1, hq2, hsk⟩ := Rep.cut_kk TCt KY.out.2.2.2 G.out.2.2.2.2.2.1 (i := k) (Nat.le_of_lt HF.out.2.2.2)
                  have hal0 := (Below.refl V7.heap.size V7).alloc (Nat.le_refl _) (.cells #[] 48)
                  have hem : RCt.Own (V7.alloc (.cells #[] 48)) V7.heap.size (.slice (some ⟨V7.heap.size, 0, none⟩) 0 0) ([] : List KC) := Rep.own_empty (hnew _ _) (Nat.le_refl _)
                  have d0 := (KY.out.1.s.keep hal0).c0
                  have N1 := Lib.hid (And.intro hal0 (And.intro hem (And.intro (hst.keep hal0) (And.intro hsn hsk))))
                  have HQQ := Lib.hid (And.intro hq1 hq2)
                  clear hal0 hem hst hsn hsk hq1 hq2
                  go_wp2_with (at_builtin; refine halt ?_)
                  refine Halted.go ?_
                  clear hr1 hr2 d0
                  generalize V7.alloc (.cells #[] 48) = V8 at *
                  refine Rep.append_list TCt rfl _ _ rfl rfl N1.out.2.1 (L := []) (M := out.drop k) rfl N1.out.2.2.1 N1.out.2.2.2.1 (by rw [List.length_nil]; unfold maxLen; omega) (by rw [List.length_nil]; omega) N1.out.1.size ?_
                  intro v9 V9 hown9 hb9 _
                  rw [List.nil_append] at hown9
                  obtain ⟨a9, c9, rfl, hsl9, hn9⟩ := hown9.sl0
                  have hl9 : (out.drop k).length = m - k := by rw [List.length_drop, G.out.2.2.2.2.1]
                  rw [hl9] at hsl9 ⊢
                  have hb79 := N1.out.1.trans hb9
                  have N2 := Lib.hid (And.intro (KY.out.1.s.keep hb79) (And.intro (N1.out.2.2.2.2.keep hb79) (And.intro hsl9 (And.intro hn9 (bcall KY.out.2.2.1 (Nat.le_of_eq HX.out.symm) hb79)))))
                  clear hown9 hb9 hsl9 hn9 hl9 hb79 N1 KY
                  obtain ⟨hq1, hq2⟩ := HQQ.out
                  go_wp2_with fail
                  refine wp_region_T 19 (RtS x (.slice (some ⟨g, og, none⟩) m cc) b (o + i * 2) p w2.heap.size) (by kernel_rfl) ?_
                  have hd := (Below.refl V9.heap.size V9).drew
                  have N3 := Lib.hid (And.intro (N2.out.1.keep hd) (And.intro (N2.out.2.1.keep hd) (And.intro (N2.out.2.2.1.keep hd) (And.intro N2.out.2.2.2.1 (bcall N2.out.2.2.2.2 (Nat.le_of_eq HX.out.symm) hd)))))
                  clear hd N2
                  generalize V9.drew = V10 at *
                  refine T_reads [0, 1, 2, 3, 4, 5, 6, 7, 8, 9, 10, 11, 12, 15] (g := 6) rfl (by kernel_rfl) N3.out.1 (fun _ _ d _ _ h => by cases d <;> exact h) ?_
                  simp only [pick, List.getD_cons_zero, List.getD_cons_succ]
                  ((with_reducible refine wpRead_step (fun K hK => ?_)); go_simp; first | ((with_reducible refine hK _ ?_); clear hK K) | (apply Exists.intro; (with_reducible refine ⟨fun w' hw' => ?_, hK _ ?_⟩); ((have f0 := hw'.c0; go_simp; first | exact rfl | exact ⟨rfl, rfl⟩)); clear hK K))
                  ((with_reducible refine wpRead_step (fun K hK => ?_)); go_simp; first | ((with_reducible refine hK _ ?_); clear hK K) | (apply Exists.intro; (with_reducible refine ⟨fun w' hw' => ?_, hK _ ?_⟩); ((have f0 := hw'.c0; go_simp; first | exact rfl | exact ⟨rfl, rfl⟩)); clear hK K))
                  ((with_reducible refine wpRead_step (fun K hK => ?_)); go_simp; first | ((with_reducible refine hK _ ?_); clear hK K) | (apply Exists.intro; (with_reducible refine ⟨fun w' hw' => ?_, hK _ ?_⟩); ((have f0 := hw'.c0; go_simp; first | exact rfl | exact ⟨rfl, rfl⟩)); clear hK K))
                  ((with_reducible refine wpRead_step (fun K hK => ?_)); go_simp; first | ((with_reducible refine hK _ ?_); clear hK K) | (apply Exists.intro; (with_reducible refine ⟨fun w' hw' => ?_, hK _ ?_⟩); ((have f0 := hw'.c0; go_simp; first | exact rfl | exact ⟨rfl, rfl⟩)); clear hK K))
                  ((with_reducible refine wpRead_step (fun K hK => ?_)); go_simp; first | ((with_reducible refine hK _ ?_); clear hK K) | (apply Exists.intro; (with_reducible refine ⟨fun w' hw' => ?_, hK _ ?_⟩); ((have f0 := hw'.c0; go_simp; first | exact rfl | exact ⟨rfl, rfl⟩)); clear hK K))
                  ((with_reducible refine wpRead_step (fun K hK => ?_)); go_simp; first | ((with_reducible refine hK _ ?_); clear hK K) | (apply Exists.intro; (with_reducible refine ⟨fun w' hw' => ?_, hK _ ?_⟩); ((have f0 := hw'.c0; go_simp; first | exact rfl | exact ⟨rfl, rfl⟩)); clear hK K))
                  ((with_reducible refine wpRead_step (fun K hK => ?_)); go_simp; first | ((with_reducible refine hK _ ?_); clear hK K) | (apply Exists.intro; (with_reducible refine ⟨fun w' hw' => ?_, hK _ ?_⟩); ((have f0 := hw'.c0; go_simp; first | exact rfl | exact ⟨rfl, rfl⟩)); clear hK K))
                  ((with_reducible refine wpRead_step (fun K hK => ?_)); go_simp; first | ((with_reducible refine hK _ ?_); clear hK K) | (apply Exists.intro; (with_reducible refine ⟨fun w' hw' => ?_, hK _ ?_⟩); ((have f0 := hw'.c0; go_simp; first | exact rfl | exact ⟨rfl, rfl⟩)); clear hK K))
                  ((with_reducible refine wpRead_step (fun K hK => ?_)); go_simp; first | ((with_reducible refine hK _ ?_); clear hK K) | (apply Exists.intro; (with_reducible refine ⟨fun w' hw' => ?_, hK _ ?_⟩); ((have f0 := hw'.c0; go_simp; first | exact rfl | exact ⟨rfl, rfl⟩)); clear hK K))
                  ((with_reducible refine wpRead_step (fun K hK => ?_)); go_simp; first | ((with_reducible refine hK _ ?_); clear hK K) | (apply Exists.intro; (with_reducible refine ⟨fun w' hw' => ?_, hK _ ?_⟩); ((have f0 := hw'.c0; go_simp; first | exact rfl | exact ⟨rfl, rfl⟩)); clear hK K))
                  ((with_reducible refine wpRead_step (fun K hK => ?_)); go_simp; first | ((with_reducible refine hK _ ?_); clear hK K) | (apply Exists.intro; (with_reducible refine ⟨fun w' hw' => ?_, hK _ ?_⟩); ((have f0 := hw'.c0; go_simp; first | exact rfl | exact ⟨rfl, rfl⟩)); clear hK K))
                  with_reducible refine wpRead_yes ?_ ?_
                  rotate_left
                  rfl
                  intro K hK
                  refine read_load 46 _ rfl b (o + i * 2) #[.int .u32 (p.1 : Int), .int .i64 p.2] rfl (fun w' hw' => at_rangeP hw'.at') Try.underlying46 rfl (by kernel_rfl) (hK _ ?_)
                  clear hK K
                  ((with_reducible refine wpRead_step (fun K hK => ?_)); go_simp; first | ((with_reducible refine hK _ ?_); clear hK K) | (apply Exists.intro; (with_reducible refine ⟨fun w' hw' => ?_, hK _ ?_⟩); (first | exact rfl | exact ⟨rfl, rfl⟩); clear hK K))
                  ((with_reducible refine wpRead_step (fun K hK => ?_)); go_simp; first | ((with_reducible refine hK _ ?_); clear hK K) | (apply Exists.intro; (with_reducible refine ⟨fun w' hw' => ?_, hK _ ?_⟩); (first | exact rfl | exact ⟨rfl, rfl⟩); clear hK K))
                  with_reducible refine wpRead_nil ?_
                  clear hq1 hq2
                  refine T_one 13 (by kernel_rfl) ?_
                  simp only [pick, List.getD_cons_zero, List.getD_cons_succ]
                  have hal := (Below.refl V10.heap.size V10).alloc (Nat.le_refl _) (.cells #[.int .u32 (p.1 : Int), .int .i64 p.2, .int .i64 0] 48)
                  have hone : RCt.Sl (V10.alloc (.cells #[.int .u32 (p.1 : Int), .int .i64 p.2, .int .i64 0] 48)) (some ⟨V10.heap.size, 0, none⟩) 1 1 [(keyP p, (0 : Int))] := Rep.sl_one (R := RCt) (y := (keyP p, (0 : Int))) (by rw [show RCt.cells (keyP p, (0 : Int)) = [.int .u32 (p.1 : Int), .int .i64 p.2, .int .i64 0] from by unfold keyP; show [_, Value.int .i64 (p.2.toNat : Int), _] = _; rw [← HPK.out]]; exact hnew _ _)
                  have N4 := Lib.hid (And.intro (N3.out.1.keep hal) (And.intro (N3.out.2.1.keep hal) (And.intro (N3.out.2.2.1.keep hal) (And.intro N3.out.2.2.2.1 (And.intro hone (bcall N3.out.2.2.2.2 (Nat.le_of_eq HX.out.symm) hal))))))
                  clear hal hone N3
                  go_wp2_with fail
                  refine ⟨fun _ => N4.out.1, ?_⟩
                  generalize V10.alloc (.cells #[.int .u32 (p.1 : Int), .int .i64 p.2, .int .i64 0] 48) = V11 at *
                  generalize V10.heap.size = q11 at *
                  refine T_one 14 (by kernel_rfl) ?_
                  simp only [pick, List.getD_cons_zero, List.getD_cons_succ]
                  go_wp2_with (at_builtin; refine halt ?_)
                  refine Halted.go ?_
                  refine Rep.append_cut TCt rfl _ _ rfl rfl N4.out.2.1 rfl N4.out.2.2.2.2.1 (by omega) (by unfold maxLen; omega) (by omega) ?_
                  intro v12 V12 hown12 hb12
                  have N5 := Lib.hid (And.intro hb12 (And.intro (N4.out.2.2.1.keep hb12) hown12))
                  clear hown12 hb12
                  go_wp2_with fail
                  refine ⟨fun _ => N4.out.1.keep N5.out.1, ?_⟩
                  refine T_one 16 (by kernel_rfl) ?_
                  simp only [pick, List.getD_cons_zero, List.getD_cons_succ]
                  go_wp2_with (at_builtin; refine halt ?_)
                  refine Halted.go ?_
                  have hlt : (out.take k ++ [(keyP p, (0 : Int))]).length = k + 1 := by rw [List.length_append, List.length_take, G.out.2.2.2.2.1, List.length_singleton]; have := HF.out.2.2.2; omega
                  refine Rep.append_list TCt rfl _ _ rfl rfl N5.out.2.2 rfl N5.out.2.1 N4.out.2.2.2.1 (by rw [hlt]; unfold maxLen; omega) (by rw [hlt]; omega) N5.out.1.size ?_
                  intro v13 V13 hown13 hb13 _
                  have HIN := Lib.hid (show out.take k ++ [(keyP p, (0 : Int))] ++ out.drop k = ovL (P.take (i + 1)) from by
                    rw [takeS G.out.2.2.1, G.out.2.2.2.1, ovL_snoc, ← G.out.2.1.1]
                    exact (insE_at (fun a e ha he => by have := HF.out.1 a ha; rwa [getD_some he] at this) (by rw [G.out.2.2.2.2.1]; exact Nat.le_of_lt HF.out.2.2.2) HUP.out).symm)
                  have HLN := Lib.hid (show (out.take k ++ [(keyP p, (0 : Int))] ++ out.drop k).length = i + 1 from by
                    rw [List.length_append, hlt, List.length_drop]
                    have h1 := G.out.2.1.2.2
                    have h2 := G.out.2.2.2.2.1
                    have h3 := HF.out.2.2.2
                    omega)
                  have hxo : x + 1 ≤ V11.heap.size := lt_of_blk N4.out.1.bx
                  obtain ⟨oe, ce, rfl, -, -⟩ := hown13.sl0
                  rw [HLN.out] at hown13 ⊢
                  have hb113 := N5.out.1.trans hb13
                  have N6 := Lib.hid (And.intro (N4.out.1.keep hb113) (And.intro (hown13.mono hxo) (bcall N4.out.2.2.2.2.2 (Nat.le_of_eq HX.out.symm) hb113)))
                  clear hlt hown13 hb13 hb113 N5 N4 hxo
                  go_wp2_with fail
                  refine ⟨fun _ => N6.out.1, ?_⟩
                  refine T_reads [17, 18] (g := 1) rfl (by kernel_rfl) N6.out.1 (fun _ _ d _ _ h => by cases d <;> exact h) ?_
                  simp only [pick, List.getD_cons_zero, List.getD_cons_succ]
                  ((with_reducible refine wpRead_step (fun K hK => ?_)); go_simp; first | ((with_reducible refine hK _ ?_); clear hK K) | (apply Exists.intro; (with_reducible refine ⟨fun w' hw' => ?_, hK _ ?_⟩); (first | exact rfl | exact ⟨rfl, rfl⟩); clear hK K))
                  ((with_reducible refine wpRead_step (fun K hK => ?_)); go_simp; first | ((with_reducible refine hK _ ?_); clear hK K) | (apply Exists.intro; (with_reducible refine ⟨fun w' hw' => ?_, hK _ ?_⟩); (first | exact rfl | exact ⟨rfl, rfl⟩); clear hK K))
                  with_reducible refine wpRead_nil ?_
                  have f7 := free_of (o := 0) N6.out.1.bx
                  have e7 := N6.out.1.c0
                  refine T_one 19 (by kernel_rfl) ?_
                  simp only [pick, List.getD_cons_zero, List.getD_cons_succ]
                  go_wp2_with fail
                  refine ⟨fun h => absurd rfl h, ?_⟩
                  refine T_done (by kernel_rfl) ?_ _
                  obtain ⟨hS6, hown6, hb6⟩ := N6.out
                  have hset := (SetB.self hS6.bx).store (o := 0) (lt_of_blk hS6.bx) (.slice oe (i + 1) ce)
                  have h7z := setCell_blk hS6.bx 0 (.slice oe (i + 1) ce)
                  have hown7 := hown6.keep (fun b hb => hset.other (fun e => by have := own_ge hown6 hb; omega))
                  have hb7 := hb6.trans (hset.below (Nat.le_refl _))
                  have N7 := Lib.hid (And.intro h7z (And.intro hown7 hb7))
                  clear hS6 hown6 hb6 hset h7z hown7 hb7 f7 e7
                  go_wp2_with fail
                  exact ⟨⟨i + 1, _, _, HJ.out.1, by first | rw [HJ.out.2] | rw [Int.natCast_succ], N7.out.1, (by rw [Int.natCast_succ] at *; exact N7.out.2.1), HIN.out, okAll_take G.out.2.2.1 G.out.2.1.2.1 (by rw [G.out.2.2.2.1]; exact HO.out), HLN.out, N7.out.2.2⟩, by first | (rw [HJ.out.2]; exact mSucc HJ.out.1) | (rw [← Int.natCast_succ]; exact mSucc HJ.out.1)⟩
          · obtain rfl : k = m := by omega
            have hkt : ((k : Int) < (k : Int)) = False := by simp
            have hd := (Below.refl w5.heap.size w5).drew
            have hbd : Below W3.heap.size W3 w5.drew := bcall hb (Nat.le_refl _) hd
            have KW := Lib.hid (And.intro (GX.out.1.keep hbd) (And.intro (GX.out.2.2.2.below hbd) (And.intro (bcall GX.out.2.2.1 (Nat.le_of_eq HX.out.symm) hbd) (GX.out.2.1.keep hbd))))
            have HF := Lib.hid hlow
            clear hb hd hbd hlow
            go_wp2_with fail
            refine wp_region_heldP (RtS x (.slice oc k cc) b (o + i * 2) p w2.heap.size) (by kernel_rfl) ?_
            generalize w5.drew = V at *
            refine held_reads [0, 1, 2, 3, 4, 5, 6, 7, 8, 9, 10, 11, 12, 13, 14, 15, 16, 17, 18, 19, 20, 21, 22] (g := 0) rfl (by kernel_rfl) KW.out.1 (fun _ _ d _ _ h => by cases d <;> exact h) ?_
            simp only [pick, List.getD_cons_zero, List.getD_cons_succ]
            ((with_reducible refine wpRead_step (fun K hK => ?_)); go_simp; first | (rw [if_neg (by decide)]; (with_reducible refine hK _ ?_); clear hK K) | ((with_reducible refine hK _ ?_); clear hK K) | (apply Exists.intro; (with_reducible refine ⟨fun w' hw' => ?_, hK _ ?_⟩); ((have f0 := hw'.c0; go_simp; first | exact rfl | exact ⟨rfl, rfl⟩)); clear hK K))
            ((with_reducible refine wpRead_step (fun K hK => ?_)); go_simp; first | (rw [if_neg (by decide)]; (with_reducible refine hK _ ?_); clear hK K) | ((with_reducible refine hK _ ?_); clear hK K) | (apply Exists.intro; (with_reducible refine ⟨fun w' hw' => ?_, hK _ ?_⟩); ((have f0 := hw'.c0; go_simp; first | exact rfl | exact ⟨rfl, rfl⟩)); clear hK K))
            ((with_reducible refine wpRead_step (fun K hK => ?_)); go_simp; first | (rw [if_neg (by decide)]; (with_reducible refine hK _ ?_); clear hK K) | ((with_reducible refine hK _ ?_); clear hK K) | (apply Exists.intro; (with_reducible refine ⟨fun w' hw' => ?_, hK _ ?_⟩); ((have f0 := hw'.c0; go_simp; first | exact rfl | exact ⟨rfl, rfl⟩)); clear hK K))
            ((with_reducible refine wpRead_step (fun K hK => ?_)); go_simp; first | (rw [if_neg (by decide)]; (with_reducible refine hK _ ?_); clear hK K) | ((with_reducible refine hK _ ?_); clear hK K) | (apply Exists.intro; (with_reducible refine ⟨fun w' hw' => ?_, hK _ ?_⟩); ((have f0 := hw'.c0; go_simp; first | exact rfl | exact ⟨rfl, rfl⟩)); clear hK K))
            ((with_reducible refine wpRead_step (fun K hK => ?_)); go_simp; first | (rw [if_neg (by decide)]; (with_reducible refine hK _ ?_); clear hK K) | ((with_reducible refine hK _ ?_); clear hK K) | (apply Exists.intro; (with_reducible refine ⟨fun w' hw' => ?_, hK _ ?_⟩); ((have f0 := hw'.c0; go_simp; first | exact rfl | exact ⟨rfl, rfl⟩)); clear hK K))
            ((with_reducible refine wpRead_step (fun K hK => ?_)); go_simp; first | (rw [if_neg (by decide)]; (with_reducible refine hK _ ?_); clear hK K) | ((with_reducible refine hK _ ?_); clear hK K) | (apply Exists.intro; (with_reducible refine ⟨fun w' hw' => ?_, hK _ ?_⟩); ((have f0 := hw'.c0; go_simp; first | exact rfl | exact ⟨rfl, rfl⟩)); clear hK K))
            ((with_reducible refine wpRead_step (fun K hK => ?_)); go_simp; first | (rw [if_neg (by decide)]; (with_reducible refine hK _ ?_); clear hK K) | ((with_reducible refine hK _ ?_); clear hK K) | (apply Exists.intro; (with_reducible refine ⟨fun w' hw' => ?_, hK _ ?_⟩); ((have f0 := hw'.c0; go_simp; first | exact rfl | exact ⟨rfl, rfl⟩)); clear hK K))
            ((with_reducible refine wpRead_step (fun K hK => ?_)); go_simp; first | (rw [if_neg (by decide)]; (with_reducible refine hK _ ?_); clear hK K) | ((with_reducible refine hK _ ?_); clear hK K) | (apply Exists.intro; (with_reducible refine ⟨fun w' hw' => ?_, hK _ ?_⟩); ((have f0 := hw'.c0; go_simp; first | exact rfl | exact ⟨rfl, rfl⟩)); clear hK K))
            ((with_reducible refine wpRead_step (fun K hK => ?_)); go_simp; first | (rw [if_neg (by decide)]; (with_reducible refine hK _ ?_); clear hK K) | ((with_reducible refine hK _ ?_); clear hK K) | (apply Exists.intro; (with_reducible refine ⟨fun w' hw' => ?_, hK _ ?_⟩); ((have f0 := hw'.c0; go_simp; first | exact rfl | exact ⟨rfl, rfl⟩)); clear hK K))
            ((with_reducible refine wpRead_step (fun K hK => ?_)); go_simp; first | (rw [if_neg (by decide)]; (with_reducible refine hK _ ?_); clear hK K) | ((with_reducible refine hK _ ?_); clear hK K) | (apply Exists.intro; (with_reducible refine ⟨fun w' hw' => ?_, hK _ ?_⟩); ((have f0 := hw'.c0; go_simp; first | exact rfl | exact ⟨rfl, rfl⟩)); clear hK K))
            ((with_reducible refine wpRead_step (fun K hK => ?_)); go_simp; first | (rw [if_neg (by decide)]; (with_reducible refine hK _ ?_); clear hK K) | ((with_reducible refine hK _ ?_); clear hK K) | (apply Exists.intro; (with_reducible refine ⟨fun w' hw' => ?_, hK _ ?_⟩); ((have f0 := hw'.c0; go_simp; first | exact rfl | exact ⟨rfl, rfl⟩)); clear hK K))
            ((with_reducible refine wpRead_step (fun K hK => ?_)); go_simp; first | (rw [if_neg (by decide)]; (with_reducible refine hK _ ?_); clear hK K) | ((with_reducible refine hK _ ?_); clear hK K) | (apply Exists.intro; (with_reducible refine ⟨fun w' hw' => ?_, hK _ ?_⟩); ((have f0 := hw'.c0; go_simp; first | exact rfl | exact ⟨rfl, rfl⟩)); clear hK K))
            ((with_reducible refine wpRead_step (fun K hK => ?_)); go_simp; first | (rw [if_neg (by decide)]; (with_reducible refine hK _ ?_); clear hK K) | ((with_reducible refine hK _ ?_); clear hK K) | (apply Exists.intro; (with_reducible refine ⟨fun w' hw' => ?_, hK _ ?_⟩); ((have f0 := hw'.c0; go_simp; first | exact rfl | exact ⟨rfl, rfl⟩)); clear hK K))
            ((with_reducible refine wpRead_step (fun K hK => ?_)); go_simp; first | (rw [if_neg (by decide)]; (with_reducible refine hK _ ?_); clear hK K) | ((with_reducible refine hK _ ?_); clear hK K) | (apply Exists.intro; (with_reducible refine ⟨fun w' hw' => ?_, hK _ ?_⟩); ((have f0 := hw'.c0; go_simp; first | exact rfl | exact ⟨rfl, rfl⟩)); clear hK K))
            ((with_reducible refine wpRead_step (fun K hK => ?_)); go_simp; first | (rw [if_neg (by decide)]; (with_reducible refine hK _ ?_); clear hK K) | ((with_reducible refine hK _ ?_); clear hK K) | (apply Exists.intro; (with_reducible refine ⟨fun w' hw' => ?_, hK _ ?_⟩); ((have f0 := hw'.c0; go_simp; first | exact rfl | exact ⟨rfl, rfl⟩)); clear hK K))
            ((with_reducible refine wpRead_step (fun K hK => ?_)); go_simp; first | (rw [if_neg (by decide)]; (with_reducible refine hK _ ?_); clear hK K) | ((with_reducible refine hK _ ?_); clear hK K) | (apply Exists.intro; (with_reducible refine ⟨fun w' hw' => ?_, hK _ ?_⟩); ((have f0 := hw'.c0; go_simp; first | exact rfl | exact ⟨rfl, rfl⟩)); clear hK K))
            ((with_reducible refine wpRead_step (fun K hK => ?_)); go_simp; first | (rw [if_neg (by decide)]; (with_reducible refine hK _ ?_); clear hK K) | ((with_reducible refine hK _ ?_); clear hK K) | (apply Exists.intro; (with_reducible refine ⟨fun w' hw' => ?_, hK _ ?_⟩); ((have f0 := hw'.c0; go_simp; first | exact rfl | exact ⟨rfl, rfl⟩)); clear hK K))
            ((with_reducible refine wpRead_step (fun K hK => ?_)); go_simp; first | (rw [if_neg (by decide)]; (with_reducible refine hK _ ?_); clear hK K) | ((with_reducible refine hK _ ?_); clear hK K) | (apply Exists.intro; (with_reducible refine ⟨fun w' hw' => ?_, hK _ ?_⟩); ((have f0 := hw'.c0; go_simp; first | exact rfl | exact ⟨rfl, rfl⟩)); clear hK K))
            ((with_reducible refine wpRead_step (fun K hK => ?_)); go_simp; first | (rw [if_neg (by decide)]; (with_reducible refine hK _ ?_); clear hK K) | ((with_reducible refine hK _ ?_); clear hK K) | (apply Exists.intro; (with_reducible refine ⟨fun w' hw' => ?_, hK _ ?_⟩); ((have f0 := hw'.c0; go_simp; first | exact rfl | exact ⟨rfl, rfl⟩)); clear hK K))
            ((with_reducible refine wpRead_step (fun K hK => ?_)); go_simp; first | (rw [if_neg (by decide)]; (with_reducible refine hK _ ?_); clear hK K) | ((with_reducible refine hK _ ?_); clear hK K) | (apply Exists.intro; (with_reducible refine ⟨fun w' hw' => ?_, hK _ ?_⟩); ((have f0 := hw'.c0; go_simp; first | exact rfl | exact ⟨rfl, rfl⟩)); clear hK K))
            ((with_reducible refine wpRead_step (fun K hK => ?_)); go_simp; first | (rw [if_neg (by decide)]; (with_reducible refine hK _ ?_); clear hK K) | ((with_reducible refine hK _ ?_); clear hK K) | (apply Exists.intro; (with_reducible refine ⟨fun w' hw' => ?_, hK _ ?_⟩); ((have f0 := hw'.c0; go_simp; first | exact rfl | exact ⟨rfl, rfl⟩)); clear hK K))
            ((with_reducible refine wpRead_step (fun K hK => ?_)); go_simp; first | (rw [if_neg (by decide)]; (with_reducible refine hK _ ?_); clear hK K) | ((with_reducible refine hK _ ?_); clear hK K) | (apply Exists.intro; (with_reducible refine ⟨fun w' hw' => ?_, hK _ ?_⟩); ((have f0 := hw'.c0; go_simp; first | exact rfl | exact ⟨rfl, rfl⟩)); clear hK K))
            ((with_reducible refine wpRead_step (fun K hK => ?_)); go_simp; first | (rw [if_neg (by decide)]; (with_reducible refine hK _ ?_); clear hK K) | ((with_reducible refine hK _ ?_); clear hK K) | (apply Exists.intro; (with_reducible refine ⟨fun w' hw' => ?_, hK _ ?_⟩); ((have f0 := hw'.c0; go_simp; first | exact rfl | exact ⟨rfl, rfl⟩)); clear hK K))
            with_reducible refine wpRead_nil ?_
            refine wpAnyH_done (by kernel_rfl) ?_ _
            go_wp2_with fail
            refine wp_region_heldP (RtS x (.slice oc k cc) b (o + i * 2) p w2.heap.size) (by kernel_rfl) ?_
            have hd := (Below.refl V.heap.size V).drew
            have KY := Lib.hid (And.intro (KW.out.1.keep hd) (And.intro (KW.out.2.1.below hd) (And.intro (bcall KW.out.2.2.1 (Nat.le_of_eq HX.out.symm) hd) (KW.out.2.2.2.keep hd))))
            clear hd KW
            generalize V.drew = V7 at *
            have HUP := Lib.hid (show ∀ e : KC, out[k]? = some e → ltK (keyP p) e.1 from fun e he => by
              have h1 := (List.getElem?_eq_some_iff.1 he).1
              rw [G.out.2.2.2.2.1] at h1
              exact absurd h1 (Nat.lt_irrefl _))
            refine held_reads [0, 1, 2, 3, 4, 5, 6, 7, 8, 9, 10, 11, 12, 13, 14, 15, 16, 17, 18, 19, 20, 21] (g := 0) rfl (by kernel_rfl) KY.out.1 (fun _ _ d _ _ h => by cases d <;> exact h) ?_
            simp only [pick, List.getD_cons_zero, List.getD_cons_succ]
            ((with_reducible refine wpRead_step (fun K hK => ?_)); go_simp; first | (rw [if_neg (by decide)]; (with_reducible refine hK _ ?_); clear hK K) | ((with_reducible refine hK _ ?_); clear hK K) | (apply Exists.intro; (with_reducible refine ⟨fun w' hw' => ?_, hK _ ?_⟩); ((have f0 := hw'.c0; go_simp; first | exact rfl | exact ⟨rfl, rfl⟩)); clear hK K))
            ((with_reducible refine wpRead_step (fun K hK => ?_)); go_simp; first | (rw [if_neg (by decide)]; (with_reducible refine hK _ ?_); clear hK K) | ((with_reducible refine hK _ ?_); clear hK K) | (apply Exists.intro; (with_reducible refine ⟨fun w' hw' => ?_, hK _ ?_⟩); ((have f0 := hw'.c0; go_simp; first | exact rfl | exact ⟨rfl, rfl⟩)); clear hK K))
            ((with_reducible refine wpRead_step (fun K hK => ?_)); go_simp; first | (rw [if_neg (by decide)]; (with_reducible refine hK _ ?_); clear hK K) | ((with_reducible refine hK _ ?_); clear hK K) | (apply Exists.intro; (with_reducible refine ⟨fun w' hw' => ?_, hK _ ?_⟩); ((have f0 := hw'.c0; go_simp; first | exact rfl | exact ⟨rfl, rfl⟩)); clear hK K))
            ((with_reducible refine wpRead_step (fun K hK => ?_)); go_simp; first | (rw [if_neg (by decide)]; (with_reducible refine hK _ ?_); clear hK K) | ((with_reducible refine hK _ ?_); clear hK K) | (apply Exists.intro; (with_reducible refine ⟨fun w' hw' => ?_, hK _ ?_⟩); ((have f0 := hw'.c0; go_simp; first | exact rfl | exact ⟨rfl, rfl⟩)); clear hK K))
            ((with_reducible refine wpRead_step (fun K hK => ?_)); go_simp; first | (rw [if_neg (by decide)]; (with_reducible refine hK _ ?_); clear hK K) | ((with_reducible refine hK _ ?_); clear hK K) | (apply Exists.intro; (with_reducible refine ⟨fun w' hw' => ?_, hK _ ?_⟩); ((have f0 := hw'.c0; go_simp; first | exact rfl | exact ⟨rfl, rfl⟩)); clear hK K))
            ((with_reducible refine wpRead_step (fun K hK => ?_)); go_simp; first | (rw [if_neg (by decide)]; (with_reducible refine hK _ ?_); clear hK K) | ((with_reducible refine hK _ ?_); clear hK K) | (apply Exists.intro; (with_reducible refine ⟨fun w' hw' => ?_, hK _ ?_⟩); ((have f0 := hw'.c0; go_simp; first | exact rfl | exact ⟨rfl, rfl⟩)); clear hK K))
            ((with_reducible refine wpRead_step (fun K hK => ?_)); go_simp; first | (rw [if_neg (by decide)]; (with_reducible refine hK _ ?_); clear hK K) | ((with_reducible refine hK _ ?_); clear hK K) | (apply Exists.intro; (with_reducible refine ⟨fun w' hw' => ?_, hK _ ?_⟩); ((have f0 := hw'.c0; go_simp; first | exact rfl | exact ⟨rfl, rfl⟩)); clear hK K))
            ((with_reducible refine wpRead_step (fun K hK => ?_)); go_simp; first | (rw [if_neg (by decide)]; (with_reducible refine hK _ ?_); clear hK K) | ((with_reducible refine hK _ ?_); clear hK K) | (apply Exists.intro; (with_reducible refine ⟨fun w' hw' => ?_, hK _ ?_⟩); ((have f0 := hw'.c0; go_simp; first | exact rfl | exact ⟨rfl, rfl⟩)); clear hK K))
            ((with_reducible refine wpRead_step (fun K hK => ?_)); go_simp; first | (rw [if_neg (by decide)]; (with_reducible refine hK _ ?_); clear hK K) | ((with_reducible refine hK _ ?_); clear hK K) | (apply Exists.intro; (with_reducible refine ⟨fun w' hw' => ?_, hK _ ?_⟩); ((have f0 := hw'.c0; go_simp; first | exact rfl | exact ⟨rfl, rfl⟩)); clear hK K))
            ((with_reducible refine wpRead_step (fun K hK => ?_)); go_simp; first | (rw [if_neg (by decide)]; (with_reducible refine hK _ ?_); clear hK K) | ((with_reducible refine hK _ ?_); clear hK K) | (apply Exists.intro; (with_reducible refine ⟨fun w' hw' => ?_, hK _ ?_⟩); ((have f0 := hw'.c0; go_simp; first | exact rfl | exact ⟨rfl, rfl⟩)); clear hK K))
            ((with_reducible refine wpRead_step (fun K hK => ?_)); go_simp; first | (rw [if_neg (by decide)]; (with_reducible refine hK _ ?_); clear hK K) | ((with_reducible refine hK _ ?_); clear hK K) | (apply Exists.intro; (with_reducible refine ⟨fun w' hw' => ?_, hK _ ?_⟩); ((have f0 := hw'.c0; go_simp; first | exact rfl | exact ⟨rfl, rfl⟩)); clear hK K))
            ((with_reducible refine wpRead_step (fun K hK => ?_)); go_simp; first | (rw [if_neg (by decide)]; (with_reducible refine hK _ ?_); clear hK K) | ((with_reducible refine hK _ ?_); clear hK K) | (apply Exists.intro; (with_reducible refine ⟨fun w' hw' => ?_, hK _ ?_⟩); ((have f0 := hw'.c0; go_simp; first | exact rfl | exact ⟨rfl, rfl⟩)); clear hK K))
            ((with_reducible refine wpRead_step (fun K hK => ?_)); go_simp; first | (rw [if_neg (by decide)]; (with_reducible refine hK _ ?_); clear hK K) | ((with_reducible refine hK _ ?_); clear hK K) | (apply Exists.intro; (with_reducible refine ⟨fun w' hw' => ?_, hK _ ?_⟩); ((have f0 := hw'.c0; go_simp; first | exact rfl | exact ⟨rfl, rfl⟩)); clear hK K))
            ((with_reducible refine wpRead_step (fun K hK => ?_)); go_simp; first | (rw [if_neg (by decide)]; (with_reducible refine hK _ ?_); clear hK K) | ((with_reducible refine hK _ ?_); clear hK K) | (apply Exists.intro; (with_reducible refine ⟨fun w' hw' => ?_, hK _ ?_⟩); ((have f0 := hw'.c0; go_simp; first | exact rfl | exact ⟨rfl, rfl⟩)); clear hK K))
            ((with_reducible refine wpRead_step (fun K hK => ?_)); go_simp; first | (rw [if_neg (by decide)]; (with_reducible refine hK _ ?_); clear hK K) | ((with_reducible refine hK _ ?_); clear hK K) | (apply Exists.intro; (with_reducible refine ⟨fun w' hw' => ?_, hK _ ?_⟩); ((have f0 := hw'.c0; go_simp; first | exact rfl | exact ⟨rfl, rfl⟩)); clear hK K))
            ((with_reducible refine wpRead_step (fun K hK => ?_)); go_simp; first | (rw [if_neg (by decide)]; (with_reducible refine hK _ ?_); clear hK K) | ((with_reducible refine hK _ ?_); clear hK K) | (apply Exists.intro; (with_reducible refine ⟨fun w' hw' => ?_, hK _ ?_⟩); ((have f0 := hw'.c0; go_simp; first | exact rfl | exact ⟨rfl, rfl⟩)); clear hK K))
            ((with_reducible refine wpRead_step (fun K hK => ?_)); go_simp; first | (rw [if_neg (by decide)]; (with_reducible refine hK _ ?_); clear hK K) | ((with_reducible refine hK _ ?_); clear hK K) | (apply Exists.intro; (with_reducible refine ⟨fun w' hw' => ?_, hK _ ?_⟩); ((have f0 := hw'.c0; go_simp; first | exact rfl | exact ⟨rfl, rfl⟩)); clear hK K))
            ((with_reducible refine wpRead_step (fun K hK => ?_)); go_simp; first | (rw [if_neg (by decide)]; (with_reducible refine hK _ ?_); clear hK K) | ((with_reducible refine hK _ ?_); clear hK K) | (apply Exists.intro; (with_reducible refine ⟨fun w' hw' => ?_, hK _ ?_⟩); ((have f0 := hw'.c0; go_simp; first | exact rfl | exact ⟨rfl, rfl⟩)); clear hK K))
            ((with_reducible refine wpRead_step (fun K hK => ?_)); go_simp; first | (rw [if_neg (by decide)]; (with_reducible refine hK _ ?_); clear hK K) | ((with_reducible refine hK _ ?_); clear hK K) | (apply Exists.intro; (with_reducible refine ⟨fun w' hw' => ?_, hK _ ?_⟩); ((have f0 := hw'.c0; go_simp; first | exact rfl | exact ⟨rfl, rfl⟩)); clear hK K))
            ((with_reducible refine wpRead_step (fun K hK => ?_)); go_simp; first | (rw [if_neg (by decide)]; (with_reducible refine hK _ ?_); clear hK K) | ((with_reducible refine hK _ ?_); clear hK K) | (apply Exists.intro; (with_reducible refine ⟨fun w' hw' => ?_, hK _ ?_⟩); ((have f0 := hw'.c0; go_simp; first | exact rfl | exact ⟨rfl, rfl⟩)); clear hK K))
            ((with_reducible refine wpRead_step (fun K hK => ?_)); go_simp; first | (rw [if_neg (by decide)]; (with_reducible refine hK _ ?_); clear hK K) | ((with_reducible refine hK _ ?_); clear hK K) | (apply Exists.intro; (with_reducible refine ⟨fun w' hw' => ?_, hK _ ?_⟩); ((have f0 := hw'.c0; go_simp; first | exact rfl | exact ⟨rfl, rfl⟩)); clear hK K))
            ((with_reducible refine wpRead_step (fun K hK => ?_)); go_simp; first | (rw [if_neg (by decide)]; (with_reducible refine hK _ ?_); clear hK K) | ((with_reducible refine hK _ ?_); clear hK K) | (apply Exists.intro; (with_reducible refine ⟨fun w' hw' => ?_, hK _ ?_⟩); ((have f0 := hw'.c0; go_simp; first | exact rfl | exact ⟨rfl, rfl⟩)); clear hK K))
            with_reducible refine wpRead_nil ?_
            refine wpAnyH_done (by kernel_rfl) ?_ _
            obtain ⟨sa, hr1, hr2, hst, hsn, -⟩ := Rep.cut_from TCt KY.out.2.2.2 G.out.2.2.2.2.2.1 G.out.2.2.2.2.2.2 (i := k) (Nat.le_refl _)
            simp only [Nat.sub_self] at hr1 hr2 hst
            obtain ⟨sk, hq1, hq2, hsk⟩ := Rep.cut_kk TCt KY.out.2.2.2 G.out.2.2.2.2.2.1 (i := k) (Nat.le_refl _)
            have hal0 := (Below.refl V7.heap.size V7).alloc (Nat.le_refl _) (.cells #[] 48)
            have hem : RCt.Own (V7.alloc (.cells #[] 48)) V7.heap.size (.slice (some ⟨V7.heap.size, 0, none⟩) 0 0) ([] : List KC) := Rep.own_empty (hnew _ _) (Nat.le_refl _)
            have d0 := (KY.out.1.keep hal0).c0
            have N1 := Lib.hid (And.intro hal0 (And.intro hem (And.intro (hst.keep hal0) (And.intro hsn hsk))))
            have HQQ := Lib.hid (And.intro hq1 hq2)
            clear hal0 hem hst hsn hsk hq1 hq2
            go_wp2_with (at_builtin; refine halt ?_)
            refine Halted.go ?_
            clear hr1 hr2 d0
            generalize V7.alloc (.cells #[] 48) = V8 at *
            refine Rep.append_list TCt rfl _ _ rfl rfl N1.out.2.1 (L := []) (M := out.drop k) rfl N1.out.2.2.1 N1.out.2.2.2.1 (by rw [List.length_nil]; unfold maxLen; omega) (by rw [List.length_nil]; omega) N1.out.1.size ?_
            intro v9 V9 hown9 hb9 _
            rw [List.nil_append] at hown9
            obtain ⟨a9, c9, rfl, hsl9, hn9⟩ := hown9.sl0
            have hl9 : (out.drop k).length = 0 := by rw [List.length_drop, G.out.2.2.2.2.1, Nat.sub_self]
            rw [hl9] at hsl9 ⊢
            have hb79 := N1.out.1.trans hb9
            have N2 := Lib.hid (And.intro (KY.out.1.keep hb79) (And.intro (N1.out.2.2.2.2.keep hb79) (And.intro hsl9 (And.intro hn9 (bcall KY.out.2.2.1 (Nat.le_of_eq HX.out.symm) hb79)))))
            clear hown9 hb9 hsl9 hn9 hl9 hb79 N1 KY
            obtain ⟨hq1, hq2⟩ := HQQ.out
            go_wp2_with fail
            refine wp_region_T 19 (RtS x (.slice oc k cc) b (o + i * 2) p w2.heap.size) (by kernel_rfl) ?_
            have hd := (Below.refl V9.heap.size V9).drew
            have N3 := Lib.hid (And.intro (N2.out.1.keep hd) (And.intro (N2.out.2.1.keep hd) (And.intro (N2.out.2.2.1.keep hd) (And.intro N2.out.2.2.2.1 (bcall N2.out.2.2.2.2 (Nat.le_of_eq HX.out.symm) hd)))))
            clear hd N2
            generalize V9.drew = V10 at *
            refine T_reads [0, 1, 2, 3, 4, 5, 6, 7, 8, 9, 10, 11, 12, 15] (g := 6) rfl (by kernel_rfl) N3.out.1 (fun _ _ d _ _ h => by cases d <;> exact h) ?_
            simp only [pick, List.getD_cons_zero, List.getD_cons_succ]
            ((with_reducible refine wpRead_step (fun K hK => ?_)); go_simp; first | ((with_reducible refine hK _ ?_); clear hK K) | (apply Exists.intro; (with_reducible refine ⟨fun w' hw' => ?_, hK _ ?_⟩); ((have f0 := hw'.c0; go_simp; first | exact rfl | exact ⟨rfl, rfl⟩)); clear hK K))
            ((with_reducible refine wpRead_step (fun K hK => ?_)); go_simp; first | ((with_reducible refine hK _ ?_); clear hK K) | (apply Exists.intro; (with_reducible refine ⟨fun w' hw' => ?_, hK _ ?_⟩); ((have f0 := hw'.c0; go_simp; first | exact rfl | exact ⟨rfl, rfl⟩)); clear hK K))
            ((with_reducible refine wpRead_step (fun K hK => ?_)); go_simp; first | ((with_reducible refine hK _ ?_); clear hK K) | (apply Exists.intro; (with_reducible refine ⟨fun w' hw' => ?_, hK _ ?_⟩); ((have f0 := hw'.c0; go_simp; first | exact rfl | exact ⟨rfl, rfl⟩)); clear hK K))
            ((with_reducible refine wpRead_step (fun K hK => ?_)); go_simp; first | ((with_reducible refine hK _ ?_); clear hK K) | (apply Exists.intro; (with_reducible refine ⟨fun w' hw' => ?_, hK _ ?_⟩); ((have f0 := hw'.c0; go_simp; first | exact rfl | exact ⟨rfl, rfl⟩)); clear hK K))
            ((with_reducible refine wpRead_step (fun K hK => ?_)); go_simp; first | ((with_reducible refine hK _ ?_); clear hK K) | (apply Exists.intro; (with_reducible refine ⟨fun w' hw' => ?_, hK _ ?_⟩); ((have f0 := hw'.c0; go_simp; first | exact rfl | exact ⟨rfl, rfl⟩)); clear hK K))
            ((with_reducible refine wpRead_step (fun K hK => ?_)); go_simp; first | ((with_reducible refine hK _ ?_); clear hK K) | (apply Exists.intro; (with_reducible refine ⟨fun w' hw' => ?_, hK _ ?_⟩); ((have f0 := hw'.c0; go_simp; first | exact rfl | exact ⟨rfl, rfl⟩)); clear hK K))
            ((with_reducible refine wpRead_step (fun K hK => ?_)); go_simp; first | ((with_reducible refine hK _ ?_); clear hK K) | (apply Exists.intro; (with_reducible refine ⟨fun w' hw' => ?_, hK _ ?_⟩); ((have f0 := hw'.c0; go_simp; first | exact rfl | exact ⟨rfl, rfl⟩)); clear hK K))
            ((with_reducible refine wpRead_step (fun K hK => ?_)); go_simp; first | ((with_reducible refine hK _ ?_); clear hK K) | (apply Exists.intro; (with_reducible refine ⟨fun w' hw' => ?_, hK _ ?_⟩); ((have f0 := hw'.c0; go_simp; first | exact rfl | exact ⟨rfl, rfl⟩)); clear hK K))
            ((with_reducible refine wpRead_step (fun K hK => ?_)); go_simp; first | ((with_reducible refine hK _ ?_); clear hK K) | (apply Exists.intro; (with_reducible refine ⟨fun w' hw' => ?_, hK _ ?_⟩); ((have f0 := hw'.c0; go_simp; first | exact rfl | exact ⟨rfl, rfl⟩)); clear hK K))
            ((with_reducible refine wpRead_step (fun K hK => ?_)); go_simp; first | ((with_reducible refine hK _ ?_); clear hK K) | (apply Exists.intro; (with_reducible refine ⟨fun w' hw' => ?_, hK _ ?_⟩); ((have f0 := hw'.c0; go_simp; first | exact rfl | exact ⟨rfl, rfl⟩)); clear hK K))
            ((with_reducible refine wpRead_step (fun K hK => ?_)); go_simp; first | ((with_reducible refine hK _ ?_); clear hK K) | (apply Exists.intro; (with_reducible refine ⟨fun w' hw' => ?_, hK _ ?_⟩); ((have f0 := hw'.c0; go_simp; first | exact rfl | exact ⟨rfl, rfl⟩)); clear hK K))
            with_reducible refine wpRead_yes ?_ ?_
            rotate_left
            rfl
            intro K hK
            refine read_load 46 _ rfl b (o + i * 2) #[.int .u32 (p.1 : Int), .int .i64 p.2] rfl (fun w' hw' => at_rangeP hw'.at') Try.underlying46 rfl (by kernel_rfl) (hK _ ?_)
            clear hK K
            ((with_reducible refine wpRead_step (fun K hK => ?_)); go_simp; first | ((with_reducible refine hK _ ?_); clear hK K) | (apply Exists.intro; (with_reducible refine ⟨fun w' hw' => ?_, hK _ ?_⟩); (first | exact rfl | exact ⟨rfl, rfl⟩); clear hK K))
            ((with_reducible refine wpRead_step (fun K hK => ?_)); go_simp; first | ((with_reducible refine hK _ ?_); clear hK K) | (apply Exists.intro; (with_reducible refine ⟨fun w' hw' => ?_, hK _ ?_⟩); (first | exact rfl | exact ⟨rfl, rfl⟩); clear hK K))
            with_reducible refine wpRead_nil ?_
            clear hq1 hq2
            refine T_one 13 (by kernel_rfl) ?_
            simp only [pick, List.getD_cons_zero, List.getD_cons_succ]
            have hal := (Below.refl V10.heap.size V10).alloc (Nat.le_refl _) (.cells #[.int .u32 (p.1 : Int), .int .i64 p.2, .int .i64 0] 48)
            have hone : RCt.Sl (V10.alloc (.cells #[.int .u32 (p.1 : Int), .int .i64 p.2, .int .i64 0] 48)) (some ⟨V10.heap.size, 0, none⟩) 1 1 [(keyP p, (0 : Int))] := Rep.sl_one (R := RCt) (y := (keyP p, (0 : Int))) (by rw [show RCt.cells (keyP p, (0 : Int)) = [.int .u32 (p.1 : Int), .int .i64 p.2, .int .i64 0] from by unfold keyP; show [_, Value.int .i64 (p.2.toNat : Int), _] = _; rw [← HPK.out]]; exact hnew _ _)
            have N4 := Lib.hid (And.intro (N3.out.1.keep hal) (And.intro (N3.out.2.1.keep hal) (And.intro (N3.out.2.2.1.keep hal) (And.intro N3.out.2.2.2.1 (And.intro hone (bcall N3.out.2.2.2.2 (Nat.le_of_eq HX.out.symm) hal))))))
            clear hal hone N3
            go_wp2_with fail
            refine ⟨fun _ => N4.out.1, ?_⟩
            generalize V10.alloc (.cells #[.int .u32 (p.1 : Int), .int .i64 p.2, .int .i64 0] 48) = V11 at *
            generalize V10.heap.size = q11 at *
            refine T_one 14 (by kernel_rfl) ?_
            simp only [pick, List.getD_cons_zero, List.getD_cons_succ]
            go_wp2_with (at_builtin; refine halt ?_)
            refine Halted.go ?_
            refine Rep.append_cut TCt rfl _ _ rfl rfl N4.out.2.1 rfl N4.out.2.2.2.2.1 (by omega) (by unfold maxLen; omega) (by omega) ?_
            intro v12 V12 hown12 hb12
            have N5 := Lib.hid (And.intro hb12 (And.intro (N4.out.2.2.1.keep hb12) hown12))
            clear hown12 hb12
            go_wp2_with fail
            refine ⟨fun _ => N4.out.1.keep N5.out.1, ?_⟩
            refine T_one 16 (by kernel_rfl) ?_
            simp only [pick, List.getD_cons_zero, List.getD_cons_succ]
            go_wp2_with (at_builtin; refine halt ?_)
            refine Halted.go ?_
            have hlt : (out.take k ++ [(keyP p, (0 : Int))]).length = k + 1 := by rw [List.length_append, List.length_take, G.out.2.2.2.2.1, List.length_singleton]; omega
            refine Rep.append_list TCt rfl _ _ rfl rfl N5.out.2.2 rfl N5.out.2.1 N4.out.2.2.2.1 (by rw [hlt]; unfold maxLen; omega) (by rw [hlt]; omega) N5.out.1.size ?_
            intro v13 V13 hown13 hb13 _
            have HIN := Lib.hid (show out.take k ++ [(keyP p, (0 : Int))] ++ out.drop k = ovL (P.take (i + 1)) from by
              rw [takeS G.out.2.2.1, G.out.2.2.2.1, ovL_snoc, ← G.out.2.1.1]
              exact (insE_at (fun a e ha he => by have := HF.out a ha; rwa [getD_some he] at this) (by rw [G.out.2.2.2.2.1]; exact Nat.le_refl _) HUP.out).symm)
            have HLN := Lib.hid (show (out.take k ++ [(keyP p, (0 : Int))] ++ out.drop k).length = i + 1 from by
              rw [List.length_append, hlt, List.length_drop]
              have h1 := G.out.2.1.2.2
              have h2 := G.out.2.2.2.2.1
              skip
              omega)
            have hxo : x + 1 ≤ V11.heap.size := lt_of_blk N4.out.1.bx
            obtain ⟨oe, ce, rfl, -, -⟩ := hown13.sl0
            rw [HLN.out] at hown13 ⊢
            have hb113 := N5.out.1.trans hb13
            have N6 := Lib.hid (And.intro (N4.out.1.keep hb113) (And.intro (hown13.mono hxo) (bcall N4.out.2.2.2.2.2 (Nat.le_of_eq HX.out.symm) hb113)))
            clear hlt hown13 hb13 hb113 N5 N4 hxo
            go_wp2_with fail
            refine ⟨fun _ => N6.out.1, ?_⟩
            refine T_reads [17, 18] (g := 1) rfl (by kernel_rfl) N6.out.1 (fun _ _ d _ _ h => by cases d <;> exact h) ?_
            simp only [pick, List.getD_cons_zero, List.getD_cons_succ]
            ((with_reducible refine wpRead_step (fun K hK => ?_)); go_simp; first | ((with_reducible refine hK _ ?_); clear hK K) | (apply Exists.intro; (with_reducible refine ⟨fun w' hw' => ?_, hK _ ?_⟩); (first | exact rfl | exact ⟨rfl, rfl⟩); clear hK K))
            ((with_reducible refine wpRead_step (fun K hK => ?_)); go_simp; first | ((with_reducible refine hK _ ?_); clear hK K) | (apply Exists.intro; (with_reducible refine ⟨fun w' hw' => ?_, hK _ ?_⟩); (first | exact rfl | exact ⟨rfl, rfl⟩); clear hK K))
            with_reducible refine wpRead_nil ?_
            have f7 := free_of (o := 0) N6.out.1.bx
            have e7 := N6.out.1.c0
            refine T_one 19 (by kernel_rfl) ?_
            simp only [pick, List.getD_cons_zero, List.getD_cons_succ]
            go_wp2_with fail
            refine ⟨fun h => absurd rfl h, ?_⟩
            refine T_done (by kernel_rfl) ?_ _
            obtain ⟨hS6, hown6, hb6⟩ := N6.out
            have hset := (SetB.self hS6.bx).store (o := 0) (lt_of_blk hS6.bx) (.slice oe (i + 1) ce)
            have h7z := setCell_blk hS6.bx 0 (.slice oe (i + 1) ce)
            have hown7 := hown6.keep (fun b hb => hset.other (fun e => by have := own_ge hown6 hb; omega))
            have hb7 := hb6.trans (hset.below (Nat.le_refl _))
            have N7 := Lib.hid (And.intro h7z (And.intro hown7 hb7))
            clear hS6 hown6 hb6 hset h7z hown7 hb7 f7 e7
            go_wp2_with fail
            exact ⟨⟨i + 1, _, _, HJ.out.1, by first | rw [HJ.out.2] | rw [Int.natCast_succ], N7.out.1, (by rw [Int.natCast_succ] at *; exact N7.out.2.1), HIN.out, okAll_take G.out.2.2.1 G.out.2.1.2.1 (by rw [G.out.2.2.2.1]; exact HO.out), HLN.out, N7.out.2.2⟩, by first | (rw [HJ.out.2]; exact mSucc HJ.out.1) | (rw [← Int.natCast_succ]; exact mSucc HJ.out.1)⟩
    · obtain rfl : i = n := by omega
      have hil : ((i : Int) < (i : Int)) = False := by simp
      have hPi : P.take i = P := List.take_of_length_le (by have := F.out.2.1; omega)
      rw [hPi] at hout hok
      have he := ovE_ok hok (by rw [← hout, hlen]; exact F.out.2.1)
      rw [← F.out.2.1] at he
      have G2 := Lib.hid (And.intro (show RTot w2 x x (ovL P) 0 from ⟨⟨_, hbx, hout ▸ hown⟩, Nat.le_refl _⟩) (And.intro hb he))
      generalize out.length = m at *
      clear hown hout hok hlen hbx hb hsl hn0 hPi he
      by_cases hbig : 1024 < i
      · have h1 : ((1024 : Int) < (i : Int)) = True := by simp; omega
        have he := G2.out.2.2
        rw [if_pos hbig] at he
        have HE := Lib.hid he
        clear he hbig
        go_wp2_with fail
        go_ret2
        have hX := HX.out
        subst hX
        exact ⟨.inl ⟨by rw [HE.out]; decide, by rw [HE.out]; rfl⟩, G2.out.2.1⟩
      · have h1 : ((1024 : Int) < (i : Int)) = False := by simp; omega
        have he := G2.out.2.2
        rw [if_neg hbig] at he
        have HE := Lib.hid he
        clear he hbig
        go_wp2_with fail
        go_ret2
        have hX := HX.out
        subst hX
        exact ⟨.inr ⟨HE.out, _, rfl, G2.out.1⟩, G2.out.2.1⟩
end Go.Proofs.Ytcbpdjenncbbeaa

