/- SampleTotals. -/
import Derived.Test.YtcbpdjenncbbeaaQau
import Derived.Test.YtcbpdjenncbbeaaQal
namespace Go.Proofs.Ytcbpdjenncbbeaa
open Go.RowKit

/-- all blocks of totals -/
def tblk (x tb : Nat) (N : Nat → Nat → Option Nat) (G : List GE) (k : Nat) : Prop := k ∈ bsG x G ∨ foot tb N k
theorem TotAt.keepAll {w w' : World} {B x tb : Nat} {N : Nat → Nat → Option Nat} {G : List GE} {rest : Int} (h : TotAt w B x tb N G rest) (e : ∀ k, tblk x tb N G k → w'.heap[k]? = w.heap[k]?) : TotAt w' B x tb N G rest :=
  ⟨(e _ (.inl List.mem_cons_self)).trans h.tot, h.tr.keep (fun k hk => e k (.inr hk)), fun d hd => (e _ (.inl (List.mem_cons_of_mem _ (List.mem_map.2 ⟨d, hd, rfl⟩)))).trans (h.cnt d hd), h.dis, h.low, h.sep⟩
theorem TotAt.lts {w : World} {B x tb : Nat} {N : Nat → Nat → Option Nat} {G : List GE} {rest : Int} (h : TotAt w B x tb N G rest) : ∀ k, tblk x tb N G k → B ≤ k ∧ k < w.heap.size := fun k hk => by
  rcases hk with hb | hk
  · rcases List.mem_cons.1 hb with rfl | hb
    · exact ⟨h.low.1, lt_of_blk h.tot⟩
    · obtain ⟨e, he, rfl⟩ := List.mem_map.1 hb
      exact ⟨h.low.2.2 e he, lt_of_blk (h.cnt e he)⟩
  · obtain ⟨M, hM, -⟩ := h.tr
    exact ⟨h.low.2.1 k hk, hM.lt hk⟩
theorem tblk_same {x tb : Nat} {N : Nat → Nat → Option Nat} {G G' : List GE} (h : G'.map (·.2.1) = G.map (·.2.1)) {k : Nat} (hk : tblk x tb N G' k) : tblk x tb N G k := by
  unfold tblk bsG at *
  rw [← h]
  exact hk
theorem RTot.keepBut {w w' : World} {B x : Nat} {L : List KC} {rest : Int} (h : RTot w B x L rest) {bs : List Nat} (hb : But w w' bs) (hbs : ∀ b ∈ bs, b < B) : RTot w' B x L rest := by
  obtain ⟨⟨v, h1, h2⟩, h3⟩ := h
  exact ⟨⟨v, (hb.block _ (lt_of_blk h1) (fun hm => by have := hbs _ hm; omega)).trans h1, h2.but hb (fun b hm => by have := hbs _ hm; omega)⟩, h3⟩
theorem ovE_all {P : List PKi} (h : ovE P = 0) : okAll P = true ∧ (P.map keyP).Nodup ∧ P.length ≤ 1024 := by
  unfold ovE at h
  split at h
  · rename_i h1
    split at h
    · cases h
    · exact ⟨h1.1, h1.2, by omega⟩
  · cases h
theorem ov_keys {P : List PKi} (h : ovE P = 0) (ha : ∀ p ∈ P, p.1 < 4294967296) : ∀ K ∈ (ovL P).map (·.1), okP K.1 (K.2 : Int) = true ∧ K.1 < 4294967296 := fun K hK => by
  obtain ⟨p, hp, rfl⟩ := List.mem_map.1 (((ovL_sorted P).2.1 K).1 hK)
  have h1 := List.all_eq_true.1 (ovE_all h).1 p hp
  refine ⟨?_, ha p hp⟩
  have h2 : p.2 = ((keyP p).2 : Int) := by
    unfold okP at h1
    simp only [Bool.and_eq_true, decide_eq_true_eq] at h1
    have := h1.1.1
    unfold keyP
    dsimp only
    omega
  rw [← h2]
  exact h1
structure StS (q y : Nat) (s sq rest : Int) (v u : Value) (W : World) : Prop where
  rep : W.heap[q]? = some (.cells #[.int .i64 s, .int .i64 sq, v] 35)
  rf : W.heap[y]? = some (.cells #[u, .int .i64 rest] 39)
theorem StS.keep {q y : Nat} {s sq rest : Int} {v u : Value} {W W' : World} (h : StS q y s sq rest v u W) (hb : Below W.heap.size W W') : StS q y s sq rest v u W' :=
  ⟨(hb.block _ (lt_of_blk h.rep)).trans h.rep, (hb.block _ (lt_of_blk h.rf)).trans h.rf⟩
structure Ins (w : World) (oa : Option Addr) (n c : Nat) (P : List PKi) (ob : Option Addr) (m d : Nat) (fs : List Fl) : Prop where
  p : RPk.Sl w oa n c P
  pa : ∀ p ∈ P, p.1 < 4294967296
  f : RFl.Sl w ob m d fs
  fa : ∀ f ∈ fs, f.dst < 4294967296
set_option maxRecDepth 100000 in
set_option maxHeartbeats 8000000 in
theorem totals_law {w : World} {oa : Option Addr} {n c : Nat} {P : List PKi} {ob : Option Addr} {m d : Nat} {fs : List Fl} (h : Ins w oa n c P ob m d fs) (s sq : Int) : Calls Try.prog 3 #[.slice oa n c, .slice ob m d, .int .i64 s, .int .i64 sq] w fun e w' => e = .returned (.bool true) ∧ Below w.heap.size w w' := by
  have F0 := Lib.hid (And.intro (Below.refl w.heap.size w) h)
  have hbl : ∀ b o, ob = some ⟨b, o, none⟩ → 0 < m → b < w.heap.size := fun b o e h0 => by
    obtain ⟨b', o', e', hr⟩ := h.f.row h0
    rw [e] at e'
    cases e'
    exact hr.lt
  clear h
  go_enter Try.func3, Try.ntmps3
  by_cases hbig : 100 < n ∨ 200 < m
  · have HB : (((100 : Int) < (n : Int)) = True) ∨ (((100 : Int) < (n : Int)) = False ∧ ((200 : Int) < (m : Int)) = True) := by
      by_cases h : 100 < n
      · exact .inl (by simp; omega)
      · exact .inr ⟨by simp; omega, by simp; omega⟩
    clear hbig hbl
    rcases HB with h1 | ⟨h1, h2⟩
    all_goals
      go_wp2_with fail
      refine (Ip.lives32 _).mono ?_
      rintro e W1 ⟨rfl, hb⟩
      have HB := Lib.hid hb
      clear hb
      go_wp2_with fail
      go_ret
      exact ⟨rfl, HB.out⟩
  · have h1 : ((100 : Int) < (n : Int)) = False := by simp; omega
    have h2 : ((200 : Int) < (m : Int)) = False := by simp; omega
    have HN := Lib.hid (show n ≤ 100 ∧ m ≤ 200 by omega)
    have HBL := Lib.hid hbl
    clear hbig hbl
    by_cases hz : ovE P = 0
    · have HZ := Lib.hid hz
      clear hz
      go_wp2_with fail
      refine (over_any F0.out.2.p F0.out.2.pa (by have := HN.out; omega)).mono ?_
      rw [HZ.out]
      rintro e W1 ⟨(⟨h, -⟩ | ⟨-, x, tb, N, G, rfl, ht, hG⟩), hb⟩
      · exact absurd rfl h
      have F4 := Lib.hid (And.intro (bcall F0.out.1 (Nat.le_refl _) hb) (And.intro F0.out.2 (And.intro ht (And.intro hG (ht.lts)))))
      clear F0
      clear hb ht hG
      go_wp2_with fail
      refine (rover_any (F4.out.2.1.p.keep F4.out.1) F4.out.2.1.pa (by have := HN.out; omega)).mono ?_
      rw [HZ.out]
      rintro e W2 ⟨(⟨h, -⟩ | ⟨-, y, rfl, hr⟩), hb⟩
      · exact absurd rfl h
      have F5 := Lib.hid (And.intro (bcall F4.out.1 (Nat.le_refl _) hb) (And.intro F4.out.2.1 (And.intro (F4.out.2.2.1.keep hb) (And.intro F4.out.2.2.2.1 (And.intro F4.out.2.2.2.2 (hr))))))
      clear F4
      clear hb hr
      go_wp2_with fail
      refine (Ip.lives32 _).mono ?_
      rintro e W3 ⟨rfl, hb⟩
      have hw1 := F5.out.2.2.2.2.2.low
      have F6 := Lib.hid (And.intro (bcall F5.out.1 (Nat.le_refl _) hb) (And.intro F5.out.2.1 (And.intro (F5.out.2.2.1.keep hb) (And.intro F5.out.2.2.2.1 (And.intro F5.out.2.2.2.2.1 ((F5.out.2.2.2.2.2.keep hb)))))))
      clear F5
      clear hb
      go_wp2_with fail
      refine (adds_any F6.out.2.2.1 (F6.out.2.1.f.keep F6.out.1) F6.out.2.1.fa).mono ?_
      rintro e W4 ⟨rfl, G2, r2, ht, hbs, hadd, hb⟩
      rw [F6.out.2.2.2.1] at hadd
      have hlo : ∀ b ∈ bsG x G, w.heap.size ≤ b ∧ b < W1.heap.size := fun b hb => F6.out.2.2.2.2.1 b (.inl hb)
      have hbb := Below.step F6.out.1 F6.out.1.size hb (fun b hb => (hlo b hb).1)
      have hrr := F6.out.2.2.2.2.2.keepBut hb (fun b hb => (hlo b hb).2)
      have hgl : G2.length ≤ 16384 := by
        have h1 := congrArg List.length hbs
        have h2 := congrArg List.length F6.out.2.2.2.1
        have h3 := (ovL_len P).1
        have h4 := F6.out.2.1.p.len
        rw [List.length_map, List.length_map] at h1
        rw [List.length_map] at h2
        have := HN.out
        omega
      have htl : ∀ k, tblk x tb N G2 k → w.heap.size ≤ k ∧ k < W1.heap.size := fun k hk => F6.out.2.2.2.2.1 k (tblk_same hbs hk)
      have hw0 : w.heap.size ≤ W1.heap.size := by have := hlo x List.mem_cons_self; omega
      have hw14 : W1.heap.size ≤ W4.heap.size := Nat.le_trans (Nat.le_trans F6.out.2.2.2.2.2.low (Nat.le_of_lt (lt_of_blk F6.out.2.2.2.2.2.bx.choose_spec.1))) hb.size
      have F7 := Lib.hid (And.intro hbb (And.intro F6.out.2.1 (And.intro ht (And.intro htl (And.intro hadd (And.intro hrr (And.intro hgl (And.intro hw14 (hw0)))))))))
      clear F6
      clear hb ht hbs hadd hlo hbb hrr hgl htl hw14 hw0 hw1
      go_wp2_with fail
      refine (radds_any F7.out.2.2.2.2.2.1 F7.out.2.2.2.2.2.2.2.1 (by have h3 := (ovL_len P).1; have h4 := F7.out.2.1.p.len; have := HN.out; omega) (ov_keys HZ.out F7.out.2.1.pa) (F7.out.2.1.f.keep F7.out.1) F7.out.2.1.fa ?_).mono ?_
      · exact fun b o e h0 => Nat.lt_of_lt_of_le (HBL.out b o e h0) F7.out.2.2.2.2.2.2.2.2
      rw [F7.out.2.2.2.2.1]
      dsimp only
      rintro e W5 ⟨rfl, hr, hb⟩
      have htt := F7.out.2.2.1.keepAll (fun k hk => hb.block k (F7.out.2.2.2.1 k hk).2)
      have hbb := F7.out.1.trans (Below.mono hb F7.out.2.2.2.2.2.2.2.2)
      have F8 := Lib.hid (And.intro hbb (And.intro F7.out.2.1 (And.intro htt (And.intro hr (And.intro F7.out.2.2.2.2.1 (F7.out.2.2.2.2.2.2.1))))))
      clear F7
      clear hb hr htt hbb
      go_wp2_with fail
      refine (report_any F8.out.2.2.1 F8.out.2.2.2.2.2 s sq).mono ?_
      rintro e W6 ⟨⟨v, rfl, ho⟩, hb⟩
      obtain ⟨oe, ce, rfl, hse, -⟩ := ho.sl0
      obtain ⟨ln, hln⟩ : ∃ ln, (G2.map gC).length = ln := ⟨_, rfl⟩
      rw [hln] at hse ⊢
      have F9 := Lib.hid (And.intro (bcall F8.out.1 (Nat.le_refl _) hb) (And.intro F8.out.2.1 (And.intro (F8.out.2.2.1.keep hb) (And.intro (F8.out.2.2.2.1.keep hb) (And.intro F8.out.2.2.2.2.1 (And.intro F8.out.2.2.2.2.2 (hse)))))))
      clear F8
      clear hb ho hse
      go_wp2_with (with_reducible refine halt_store 35 rfl ?_)
      refine Halted.go ?_
      have hal := (Below.refl W6.heap.size W6).alloc (Nat.le_refl _) (.cells #[.int .i64 0, .int .i64 0, .slice none 0 0] 35)
      have hzz := hnew W6 (.cells #[.int .i64 0, .int .i64 0, .slice none 0 0] 35)
      refine store_whole rfl 35 _ _ rfl W6.heap.size #[.int .i64 s, .int .i64 sq, .slice oe ln ce] rfl rfl hzz rfl (by kernel_rfl) (by simp [Value.oneCell']) ?_
      intro W7 hz hsz
      have hb := (Below.trans hal (hsz.below (Nat.le_refl _))).trans (Below.refl _ _).drew
      obtain ⟨q9, hq9⟩ : ∃ q, W6.heap.size = q := ⟨_, rfl⟩
      rw [hq9] at hz
      try rw [hq9]
      have hz7 : W7.drew.heap[q9]? = _ := hz
      obtain ⟨u, hu, hou⟩ := (F9.out.2.2.2.1.keep hb).bx
      obtain ⟨ou, cu, rfl, hsu, -⟩ := hou.sl0
      rw [hln] at hu hsu
      have F10 := Lib.hid (And.intro (bcall F9.out.1 (Nat.le_refl _) hb) (And.intro F9.out.2.1 (And.intro (F9.out.2.2.1.keep hb) (And.intro F9.out.2.2.2.2.1 (And.intro F9.out.2.2.2.2.2.1 (And.intro (F9.out.2.2.2.2.2.2.keep hb) (And.intro (show StS q9 y s sq r2 _ _ W7.drew from ⟨hz7, hu⟩) (hsu))))))))
      clear F9
      clear hb hal hzz hz hsz hq9 hu hou hsu hz7 hln
      go_wp2_with fail
      refine wp_region_heldP (StS q9 y s sq r2 (.slice oe ln ce) (.slice ou ln cu)) (by kernel_rfl) ?_
      generalize W7.drew = V at *
      refine held_reads [0, 1, 2, 3, 4, 5, 6, 7, 8, 9, 10, 11, 12, 13, 14, 15, 16] (g := 12) rfl (by kernel_rfl) F10.out.2.2.2.2.2.2.1 (fun _ _ d _ _ h => by cases d <;> exact h) ?_
      simp only [pick, List.getD_cons_zero, List.getD_cons_succ]
      ((with_reducible refine wpRead_step (fun K hK => ?_)); go_simp; first | ((with_reducible refine hK _ ?_); clear hK K) | (apply Exists.intro; (with_reducible refine ⟨fun w' hw' => ?_, hK _ ?_⟩); ((have f0 : w'.cell? ⟨q9, 0, none⟩ = _ := cell_of hw'.rep rfl; have f1 : w'.cell? ⟨q9, 1, none⟩ = _ := cell_of hw'.rep rfl; have f2 : w'.cell? ⟨q9, 2, none⟩ = _ := cell_of hw'.rep rfl; have f3 : w'.cell? ⟨y, 0, none⟩ = _ := cell_of hw'.rf rfl; have f4 : w'.cell? ⟨y, 1, none⟩ = _ := cell_of hw'.rf rfl; go_simp; first | exact rfl | exact ⟨rfl, rfl⟩)); clear hK K))
      ((with_reducible refine wpRead_step (fun K hK => ?_)); go_simp; first | ((with_reducible refine hK _ ?_); clear hK K) | (apply Exists.intro; (with_reducible refine ⟨fun w' hw' => ?_, hK _ ?_⟩); ((have f0 : w'.cell? ⟨q9, 0, none⟩ = _ := cell_of hw'.rep rfl; have f1 : w'.cell? ⟨q9, 1, none⟩ = _ := cell_of hw'.rep rfl; have f2 : w'.cell? ⟨q9, 2, none⟩ = _ := cell_of hw'.rep rfl; have f3 : w'.cell? ⟨y, 0, none⟩ = _ := cell_of hw'.rf rfl; have f4 : w'.cell? ⟨y, 1, none⟩ = _ := cell_of hw'.rf rfl; go_simp; first | exact rfl | exact ⟨rfl, rfl⟩)); clear hK K))
      ((with_reducible refine wpRead_step (fun K hK => ?_)); go_simp; first | ((with_reducible refine hK _ ?_); clear hK K) | (apply Exists.intro; (with_reducible refine ⟨fun w' hw' => ?_, hK _ ?_⟩); ((have f0 : w'.cell? ⟨q9, 0, none⟩ = _ := cell_of hw'.rep rfl; have f1 : w'.cell? ⟨q9, 1, none⟩ = _ := cell_of hw'.rep rfl; have f2 : w'.cell? ⟨q9, 2, none⟩ = _ := cell_of hw'.rep rfl; have f3 : w'.cell? ⟨y, 0, none⟩ = _ := cell_of hw'.rf rfl; have f4 : w'.cell? ⟨y, 1, none⟩ = _ := cell_of hw'.rf rfl; go_simp; first | exact rfl | exact ⟨rfl, rfl⟩)); clear hK K))
      ((with_reducible refine wpRead_step (fun K hK => ?_)); go_simp; first | ((with_reducible refine hK _ ?_); clear hK K) | (apply Exists.intro; (with_reducible refine ⟨fun w' hw' => ?_, hK _ ?_⟩); ((have f0 : w'.cell? ⟨q9, 0, none⟩ = _ := cell_of hw'.rep rfl; have f1 : w'.cell? ⟨q9, 1, none⟩ = _ := cell_of hw'.rep rfl; have f2 : w'.cell? ⟨q9, 2, none⟩ = _ := cell_of hw'.rep rfl; have f3 : w'.cell? ⟨y, 0, none⟩ = _ := cell_of hw'.rf rfl; have f4 : w'.cell? ⟨y, 1, none⟩ = _ := cell_of hw'.rf rfl; go_simp; first | exact rfl | exact ⟨rfl, rfl⟩)); clear hK K))
      ((with_reducible refine wpRead_step (fun K hK => ?_)); go_simp; first | ((with_reducible refine hK _ ?_); clear hK K) | (apply Exists.intro; (with_reducible refine ⟨fun w' hw' => ?_, hK _ ?_⟩); ((have f0 : w'.cell? ⟨q9, 0, none⟩ = _ := cell_of hw'.rep rfl; have f1 : w'.cell? ⟨q9, 1, none⟩ = _ := cell_of hw'.rep rfl; have f2 : w'.cell? ⟨q9, 2, none⟩ = _ := cell_of hw'.rep rfl; have f3 : w'.cell? ⟨y, 0, none⟩ = _ := cell_of hw'.rf rfl; have f4 : w'.cell? ⟨y, 1, none⟩ = _ := cell_of hw'.rf rfl; go_simp; first | exact rfl | exact ⟨rfl, rfl⟩)); clear hK K))
      ((with_reducible refine wpRead_step (fun K hK => ?_)); go_simp; first | ((with_reducible refine hK _ ?_); clear hK K) | (apply Exists.intro; (with_reducible refine ⟨fun w' hw' => ?_, hK _ ?_⟩); ((have f0 : w'.cell? ⟨q9, 0, none⟩ = _ := cell_of hw'.rep rfl; have f1 : w'.cell? ⟨q9, 1, none⟩ = _ := cell_of hw'.rep rfl; have f2 : w'.cell? ⟨q9, 2, none⟩ = _ := cell_of hw'.rep rfl; have f3 : w'.cell? ⟨y, 0, none⟩ = _ := cell_of hw'.rf rfl; have f4 : w'.cell? ⟨y, 1, none⟩ = _ := cell_of hw'.rf rfl; go_simp; first | exact rfl | exact ⟨rfl, rfl⟩)); clear hK K))
      ((with_reducible refine wpRead_step (fun K hK => ?_)); go_simp; first | ((with_reducible refine hK _ ?_); clear hK K) | (apply Exists.intro; (with_reducible refine ⟨fun w' hw' => ?_, hK _ ?_⟩); ((have f0 : w'.cell? ⟨q9, 0, none⟩ = _ := cell_of hw'.rep rfl; have f1 : w'.cell? ⟨q9, 1, none⟩ = _ := cell_of hw'.rep rfl; have f2 : w'.cell? ⟨q9, 2, none⟩ = _ := cell_of hw'.rep rfl; have f3 : w'.cell? ⟨y, 0, none⟩ = _ := cell_of hw'.rf rfl; have f4 : w'.cell? ⟨y, 1, none⟩ = _ := cell_of hw'.rf rfl; go_simp; first | exact rfl | exact ⟨rfl, rfl⟩)); clear hK K))
      ((with_reducible refine wpRead_step (fun K hK => ?_)); go_simp; first | ((with_reducible refine hK _ ?_); clear hK K) | (apply Exists.intro; (with_reducible refine ⟨fun w' hw' => ?_, hK _ ?_⟩); ((have f0 : w'.cell? ⟨q9, 0, none⟩ = _ := cell_of hw'.rep rfl; have f1 : w'.cell? ⟨q9, 1, none⟩ = _ := cell_of hw'.rep rfl; have f2 : w'.cell? ⟨q9, 2, none⟩ = _ := cell_of hw'.rep rfl; have f3 : w'.cell? ⟨y, 0, none⟩ = _ := cell_of hw'.rf rfl; have f4 : w'.cell? ⟨y, 1, none⟩ = _ := cell_of hw'.rf rfl; go_simp; first | exact rfl | exact ⟨rfl, rfl⟩)); clear hK K))
      ((with_reducible refine wpRead_step (fun K hK => ?_)); go_simp; first | ((with_reducible refine hK _ ?_); clear hK K) | (apply Exists.intro; (with_reducible refine ⟨fun w' hw' => ?_, hK _ ?_⟩); ((have f0 : w'.cell? ⟨q9, 0, none⟩ = _ := cell_of hw'.rep rfl; have f1 : w'.cell? ⟨q9, 1, none⟩ = _ := cell_of hw'.rep rfl; have f2 : w'.cell? ⟨q9, 2, none⟩ = _ := cell_of hw'.rep rfl; have f3 : w'.cell? ⟨y, 0, none⟩ = _ := cell_of hw'.rf rfl; have f4 : w'.cell? ⟨y, 1, none⟩ = _ := cell_of hw'.rf rfl; go_simp; first | exact rfl | exact ⟨rfl, rfl⟩)); clear hK K))
      ((with_reducible refine wpRead_step (fun K hK => ?_)); go_simp; first | ((with_reducible refine hK _ ?_); clear hK K) | (apply Exists.intro; (with_reducible refine ⟨fun w' hw' => ?_, hK _ ?_⟩); ((have f0 : w'.cell? ⟨q9, 0, none⟩ = _ := cell_of hw'.rep rfl; have f1 : w'.cell? ⟨q9, 1, none⟩ = _ := cell_of hw'.rep rfl; have f2 : w'.cell? ⟨q9, 2, none⟩ = _ := cell_of hw'.rep rfl; have f3 : w'.cell? ⟨y, 0, none⟩ = _ := cell_of hw'.rf rfl; have f4 : w'.cell? ⟨y, 1, none⟩ = _ := cell_of hw'.rf rfl; go_simp; first | exact rfl | exact ⟨rfl, rfl⟩)); clear hK K))
      ((with_reducible refine wpRead_step (fun K hK => ?_)); go_simp; first | ((with_reducible refine hK _ ?_); clear hK K) | (apply Exists.intro; (with_reducible refine ⟨fun w' hw' => ?_, hK _ ?_⟩); ((have f0 : w'.cell? ⟨q9, 0, none⟩ = _ := cell_of hw'.rep rfl; have f1 : w'.cell? ⟨q9, 1, none⟩ = _ := cell_of hw'.rep rfl; have f2 : w'.cell? ⟨q9, 2, none⟩ = _ := cell_of hw'.rep rfl; have f3 : w'.cell? ⟨y, 0, none⟩ = _ := cell_of hw'.rf rfl; have f4 : w'.cell? ⟨y, 1, none⟩ = _ := cell_of hw'.rf rfl; go_simp; first | exact rfl | exact ⟨rfl, rfl⟩)); clear hK K))
      ((with_reducible refine wpRead_step (fun K hK => ?_)); go_simp; first | ((with_reducible refine hK _ ?_); clear hK K) | (apply Exists.intro; (with_reducible refine ⟨fun w' hw' => ?_, hK _ ?_⟩); ((have f0 : w'.cell? ⟨q9, 0, none⟩ = _ := cell_of hw'.rep rfl; have f1 : w'.cell? ⟨q9, 1, none⟩ = _ := cell_of hw'.rep rfl; have f2 : w'.cell? ⟨q9, 2, none⟩ = _ := cell_of hw'.rep rfl; have f3 : w'.cell? ⟨y, 0, none⟩ = _ := cell_of hw'.rf rfl; have f4 : w'.cell? ⟨y, 1, none⟩ = _ := cell_of hw'.rf rfl; go_simp; first | exact rfl | exact ⟨rfl, rfl⟩)); clear hK K))
      ((with_reducible refine wpRead_step (fun K hK => ?_)); go_simp; first | ((with_reducible refine hK _ ?_); clear hK K) | (apply Exists.intro; (with_reducible refine ⟨fun w' hw' => ?_, hK _ ?_⟩); ((have f0 : w'.cell? ⟨q9, 0, none⟩ = _ := cell_of hw'.rep rfl; have f1 : w'.cell? ⟨q9, 1, none⟩ = _ := cell_of hw'.rep rfl; have f2 : w'.cell? ⟨q9, 2, none⟩ = _ := cell_of hw'.rep rfl; have f3 : w'.cell? ⟨y, 0, none⟩ = _ := cell_of hw'.rf rfl; have f4 : w'.cell? ⟨y, 1, none⟩ = _ := cell_of hw'.rf rfl; go_simp; first | exact rfl | exact ⟨rfl, rfl⟩)); clear hK K))
      ((with_reducible refine wpRead_step (fun K hK => ?_)); go_simp; first | ((with_reducible refine hK _ ?_); clear hK K) | (apply Exists.intro; (with_reducible refine ⟨fun w' hw' => ?_, hK _ ?_⟩); ((have f0 : w'.cell? ⟨q9, 0, none⟩ = _ := cell_of hw'.rep rfl; have f1 : w'.cell? ⟨q9, 1, none⟩ = _ := cell_of hw'.rep rfl; have f2 : w'.cell? ⟨q9, 2, none⟩ = _ := cell_of hw'.rep rfl; have f3 : w'.cell? ⟨y, 0, none⟩ = _ := cell_of hw'.rf rfl; have f4 : w'.cell? ⟨y, 1, none⟩ = _ := cell_of hw'.rf rfl; go_simp; first | exact rfl | exact ⟨rfl, rfl⟩)); clear hK K))
      ((with_reducible refine wpRead_step (fun K hK => ?_)); go_simp; first | ((with_reducible refine hK _ ?_); clear hK K) | (apply Exists.intro; (with_reducible refine ⟨fun w' hw' => ?_, hK _ ?_⟩); ((have f0 : w'.cell? ⟨q9, 0, none⟩ = _ := cell_of hw'.rep rfl; have f1 : w'.cell? ⟨q9, 1, none⟩ = _ := cell_of hw'.rep rfl; have f2 : w'.cell? ⟨q9, 2, none⟩ = _ := cell_of hw'.rep rfl; have f3 : w'.cell? ⟨y, 0, none⟩ = _ := cell_of hw'.rf rfl; have f4 : w'.cell? ⟨y, 1, none⟩ = _ := cell_of hw'.rf rfl; go_simp; first | exact rfl | exact ⟨rfl, rfl⟩)); clear hK K))
      ((with_reducible refine wpRead_step (fun K hK => ?_)); go_simp; first | ((with_reducible refine hK _ ?_); clear hK K) | (apply Exists.intro; (with_reducible refine ⟨fun w' hw' => ?_, hK _ ?_⟩); ((have f0 : w'.cell? ⟨q9, 0, none⟩ = _ := cell_of hw'.rep rfl; have f1 : w'.cell? ⟨q9, 1, none⟩ = _ := cell_of hw'.rep rfl; have f2 : w'.cell? ⟨q9, 2, none⟩ = _ := cell_of hw'.rep rfl; have f3 : w'.cell? ⟨y, 0, none⟩ = _ := cell_of hw'.rf rfl; have f4 : w'.cell? ⟨y, 1, none⟩ = _ := cell_of hw'.rf rfl; go_simp; first | exact rfl | exact ⟨rfl, rfl⟩)); clear hK K))
      ((with_reducible refine wpRead_step (fun K hK => ?_)); go_simp; first | ((with_reducible refine hK _ ?_); clear hK K) | (apply Exists.intro; (with_reducible refine ⟨fun w' hw' => ?_, hK _ ?_⟩); ((have f0 : w'.cell? ⟨q9, 0, none⟩ = _ := cell_of hw'.rep rfl; have f1 : w'.cell? ⟨q9, 1, none⟩ = _ := cell_of hw'.rep rfl; have f2 : w'.cell? ⟨q9, 2, none⟩ = _ := cell_of hw'.rep rfl; have f3 : w'.cell? ⟨y, 0, none⟩ = _ := cell_of hw'.rf rfl; have f4 : w'.cell? ⟨y, 1, none⟩ = _ := cell_of hw'.rf rfl; go_simp; first | exact rfl | exact ⟨rfl, rfl⟩)); clear hK K))
      with_reducible refine wpRead_nil ?_
      refine held_one 17 (by kernel_rfl) ?_
      simp only [pick, List.getD_cons_zero, List.getD_cons_succ]
      go_wp2_with fail
      refine (csame_any F10.out.2.2.2.2.2.1 F10.out.2.2.2.2.2.2.2).mono ?_
      rintro e W8 ⟨rfl, hb⟩
      have F11 := Lib.hid (And.intro (bcall F10.out.1 (Nat.le_refl _) hb) (And.intro F10.out.2.1 (And.intro (F10.out.2.2.1.keep hb) (And.intro F10.out.2.2.2.1 (And.intro F10.out.2.2.2.2.1 (And.intro (F10.out.2.2.2.2.2.1.keep hb) (And.intro (F10.out.2.2.2.2.2.2.1.keep hb) ((F10.out.2.2.2.2.2.2.2.keep hb)))))))))
      clear F10
      clear hb
      go_wp2_with fail
      refine ⟨F11.out.2.2.2.2.2.2.1, ?_⟩
      refine held_reads [18, 19, 20, 22, 23, 24, 25] (g := 4) rfl (by kernel_rfl) F11.out.2.2.2.2.2.2.1 (fun _ _ d _ _ h => by cases d <;> exact h) ?_
      simp only [pick, List.getD_cons_zero, List.getD_cons_succ]
      ((with_reducible refine wpRead_step (fun K hK => ?_)); go_simp; first | ((with_reducible refine hK _ ?_); clear hK K) | (apply Exists.intro; (with_reducible refine ⟨fun w' hw' => ?_, hK _ ?_⟩); ((have f0 : w'.cell? ⟨q9, 0, none⟩ = _ := cell_of hw'.rep rfl; have f1 : w'.cell? ⟨q9, 1, none⟩ = _ := cell_of hw'.rep rfl; have f2 : w'.cell? ⟨q9, 2, none⟩ = _ := cell_of hw'.rep rfl; have f3 : w'.cell? ⟨y, 0, none⟩ = _ := cell_of hw'.rf rfl; have f4 : w'.cell? ⟨y, 1, none⟩ = _ := cell_of hw'.rf rfl; go_simp; first | exact rfl | exact ⟨rfl, rfl⟩)); clear hK K))
      ((with_reducible refine wpRead_step (fun K hK => ?_)); go_simp; first | ((with_reducible refine hK _ ?_); clear hK K) | (apply Exists.intro; (with_reducible refine ⟨fun w' hw' => ?_, hK _ ?_⟩); ((have f0 : w'.cell? ⟨q9, 0, none⟩ = _ := cell_of hw'.rep rfl; have f1 : w'.cell? ⟨q9, 1, none⟩ = _ := cell_of hw'.rep rfl; have f2 : w'.cell? ⟨q9, 2, none⟩ = _ := cell_of hw'.rep rfl; have f3 : w'.cell? ⟨y, 0, none⟩ = _ := cell_of hw'.rf rfl; have f4 : w'.cell? ⟨y, 1, none⟩ = _ := cell_of hw'.rf rfl; go_simp; first | exact rfl | exact ⟨rfl, rfl⟩)); clear hK K))
      ((with_reducible refine wpRead_step (fun K hK => ?_)); go_simp; first | ((with_reducible refine hK _ ?_); clear hK K) | (apply Exists.intro; (with_reducible refine ⟨fun w' hw' => ?_, hK _ ?_⟩); ((have f0 : w'.cell? ⟨q9, 0, none⟩ = _ := cell_of hw'.rep rfl; have f1 : w'.cell? ⟨q9, 1, none⟩ = _ := cell_of hw'.rep rfl; have f2 : w'.cell? ⟨q9, 2, none⟩ = _ := cell_of hw'.rep rfl; have f3 : w'.cell? ⟨y, 0, none⟩ = _ := cell_of hw'.rf rfl; have f4 : w'.cell? ⟨y, 1, none⟩ = _ := cell_of hw'.rf rfl; go_simp; first | exact rfl | exact ⟨rfl, rfl⟩)); clear hK K))
      ((with_reducible refine wpRead_step (fun K hK => ?_)); go_simp; first | ((with_reducible refine hK _ ?_); clear hK K) | (apply Exists.intro; (with_reducible refine ⟨fun w' hw' => ?_, hK _ ?_⟩); ((have f0 : w'.cell? ⟨q9, 0, none⟩ = _ := cell_of hw'.rep rfl; have f1 : w'.cell? ⟨q9, 1, none⟩ = _ := cell_of hw'.rep rfl; have f2 : w'.cell? ⟨q9, 2, none⟩ = _ := cell_of hw'.rep rfl; have f3 : w'.cell? ⟨y, 0, none⟩ = _ := cell_of hw'.rf rfl; have f4 : w'.cell? ⟨y, 1, none⟩ = _ := cell_of hw'.rf rfl; go_simp; first | exact rfl | exact ⟨rfl, rfl⟩)); clear hK K))
      ((with_reducible refine wpRead_step (fun K hK => ?_)); go_simp; first | ((with_reducible refine hK _ ?_); clear hK K) | (apply Exists.intro; (with_reducible refine ⟨fun w' hw' => ?_, hK _ ?_⟩); ((have f0 : w'.cell? ⟨q9, 0, none⟩ = _ := cell_of hw'.rep rfl; have f1 : w'.cell? ⟨q9, 1, none⟩ = _ := cell_of hw'.rep rfl; have f2 : w'.cell? ⟨q9, 2, none⟩ = _ := cell_of hw'.rep rfl; have f3 : w'.cell? ⟨y, 0, none⟩ = _ := cell_of hw'.rf rfl; have f4 : w'.cell? ⟨y, 1, none⟩ = _ := cell_of hw'.rf rfl; go_simp; first | exact rfl | exact ⟨rfl, rfl⟩)); clear hK K))
      ((with_reducible refine wpRead_step (fun K hK => ?_)); go_simp; first | ((with_reducible refine hK _ ?_); clear hK K) | (apply Exists.intro; (with_reducible refine ⟨fun w' hw' => ?_, hK _ ?_⟩); ((have f0 : w'.cell? ⟨q9, 0, none⟩ = _ := cell_of hw'.rep rfl; have f1 : w'.cell? ⟨q9, 1, none⟩ = _ := cell_of hw'.rep rfl; have f2 : w'.cell? ⟨q9, 2, none⟩ = _ := cell_of hw'.rep rfl; have f3 : w'.cell? ⟨y, 0, none⟩ = _ := cell_of hw'.rf rfl; have f4 : w'.cell? ⟨y, 1, none⟩ = _ := cell_of hw'.rf rfl; go_simp; first | exact rfl | exact ⟨rfl, rfl⟩)); clear hK K))
      ((with_reducible refine wpRead_step (fun K hK => ?_)); go_simp; first | ((with_reducible refine hK _ ?_); clear hK K) | (apply Exists.intro; (with_reducible refine ⟨fun w' hw' => ?_, hK _ ?_⟩); ((have f0 : w'.cell? ⟨q9, 0, none⟩ = _ := cell_of hw'.rep rfl; have f1 : w'.cell? ⟨q9, 1, none⟩ = _ := cell_of hw'.rep rfl; have f2 : w'.cell? ⟨q9, 2, none⟩ = _ := cell_of hw'.rep rfl; have f3 : w'.cell? ⟨y, 0, none⟩ = _ := cell_of hw'.rf rfl; have f4 : w'.cell? ⟨y, 1, none⟩ = _ := cell_of hw'.rf rfl; go_simp; first | exact rfl | exact ⟨rfl, rfl⟩)); clear hK K))
      with_reducible refine wpRead_nil ?_
      refine held_one 21 (by kernel_rfl) ?_
      simp only [pick, List.getD_cons_zero, List.getD_cons_succ]
      go_wp2_with fail
      refine (rest_any F11.out.2.2.1).mono ?_
      rintro e W9 ⟨rfl, rfl⟩
      go_wp2_with fail
      refine ⟨F11.out.2.2.2.2.2.2.1, ?_⟩
      refine held_reads [26, 27, 28] (g := 0) rfl (by kernel_rfl) F11.out.2.2.2.2.2.2.1 (fun _ _ d _ _ h => by cases d <;> exact h) ?_
      simp only [pick, List.getD_cons_zero, List.getD_cons_succ]
      ((with_reducible refine wpRead_step (fun K hK => ?_)); go_simp; first | ((with_reducible refine hK _ ?_); clear hK K) | (apply Exists.intro; (with_reducible refine ⟨fun w' hw' => ?_, hK _ ?_⟩); ((have f0 : w'.cell? ⟨q9, 0, none⟩ = _ := cell_of hw'.rep rfl; have f1 : w'.cell? ⟨q9, 1, none⟩ = _ := cell_of hw'.rep rfl; have f2 : w'.cell? ⟨q9, 2, none⟩ = _ := cell_of hw'.rep rfl; have f3 : w'.cell? ⟨y, 0, none⟩ = _ := cell_of hw'.rf rfl; have f4 : w'.cell? ⟨y, 1, none⟩ = _ := cell_of hw'.rf rfl; go_simp; first | exact rfl | exact ⟨rfl, rfl⟩)); clear hK K))
      ((with_reducible refine wpRead_step (fun K hK => ?_)); go_simp; first | ((with_reducible refine hK _ ?_); clear hK K) | (apply Exists.intro; (with_reducible refine ⟨fun w' hw' => ?_, hK _ ?_⟩); ((have f0 : w'.cell? ⟨q9, 0, none⟩ = _ := cell_of hw'.rep rfl; have f1 : w'.cell? ⟨q9, 1, none⟩ = _ := cell_of hw'.rep rfl; have f2 : w'.cell? ⟨q9, 2, none⟩ = _ := cell_of hw'.rep rfl; have f3 : w'.cell? ⟨y, 0, none⟩ = _ := cell_of hw'.rf rfl; have f4 : w'.cell? ⟨y, 1, none⟩ = _ := cell_of hw'.rf rfl; go_simp; first | exact rfl | exact ⟨rfl, rfl⟩)); clear hK K))
      ((with_reducible refine wpRead_step (fun K hK => ?_)); go_simp; first | ((with_reducible refine hK _ ?_); clear hK K) | (apply Exists.intro; (with_reducible refine ⟨fun w' hw' => ?_, hK _ ?_⟩); ((have f0 : w'.cell? ⟨q9, 0, none⟩ = _ := cell_of hw'.rep rfl; have f1 : w'.cell? ⟨q9, 1, none⟩ = _ := cell_of hw'.rep rfl; have f2 : w'.cell? ⟨q9, 2, none⟩ = _ := cell_of hw'.rep rfl; have f3 : w'.cell? ⟨y, 0, none⟩ = _ := cell_of hw'.rf rfl; have f4 : w'.cell? ⟨y, 1, none⟩ = _ := cell_of hw'.rf rfl; go_simp; first | exact rfl | exact ⟨rfl, rfl⟩)); clear hK K))
      with_reducible refine wpRead_nil ?_
      refine wpAnyH_done (by kernel_rfl) ?_ _
      go_wp2_with fail
      go_ret
      exact ⟨rfl, F11.out.1⟩
    · obtain ⟨z, hze⟩ : ∃ z, ovE P = z := ⟨_, rfl⟩
      rw [hze] at hz
      have HZ := Lib.hid (And.intro hz hze)
      clear hz hze
      go_wp2_with fail
      refine (over_any F0.out.2.p F0.out.2.pa (by have := HN.out; omega)).mono ?_
      rw [HZ.out.2]
      rintro e W1 ⟨(⟨-, rfl⟩ | ⟨h, -⟩), hb⟩
      rotate_left
      · exact absurd h HZ.out.1
      have F1 := Lib.hid (And.intro (bcall F0.out.1 (Nat.le_refl _) hb) (F0.out.2))
      clear F0
      clear hb
      go_wp2_with fail
      refine (rover_any (F1.out.2.p.keep F1.out.1) F1.out.2.pa (by have := HN.out; omega)).mono ?_
      rw [HZ.out.2]
      rintro e W2 ⟨(⟨-, rfl⟩ | ⟨h, -⟩), hb⟩
      rotate_left
      · exact absurd h HZ.out.1
      have F2 := Lib.hid (And.intro (bcall F1.out.1 (Nat.le_refl _) hb) (F1.out.2))
      clear F1
      clear hb
      go_wp2_with fail
      refine (Ip.lives32 _).mono ?_
      rintro e W3 ⟨rfl, hb⟩
      have F3 := Lib.hid (And.intro (bcall F2.out.1 (Nat.le_refl _) hb) (F2.out.2))
      clear F2
      clear hb
      go_wp2_with fail
      go_ret
      exact ⟨rfl, F3.out.1⟩
end Go.Proofs.Ytcbpdjenncbbeaa
/- All totals together: the plain law. -/
namespace Go.Proofs.Ytcbpdjenncbbeaa

def sumI (l : List Int) : Int := l.foldr (· + ·) 0
theorem sumI_cons (a : Int) (l : List Int) : sumI (a :: l) = a + sumI l := rfl
theorem sumI_app (l r : List Int) : sumI (l ++ r) = sumI l + sumI r := by
  induction l with
  | nil => simp [sumI]
  | cons a l ih => rw [List.cons_append, sumI_cons, sumI_cons, ih]; omega
theorem sumI_nonneg : ∀ {l : List Int}, (∀ x ∈ l, 0 ≤ x) → 0 ≤ sumI l
  | [], _ => by simp [sumI]
  | a :: l, h => by
    have h1 := h a List.mem_cons_self
    have h2 := sumI_nonneg (l := l) fun x hx => h x (List.mem_cons_of_mem _ hx)
    rw [sumI_cons]; omega
theorem sumI_le {b : Int} (hb : 0 ≤ b) : ∀ {l : List Int}, (∀ x ∈ l, x ≤ b) → sumI l ≤ b * l.length
  | [], _ => by simp [sumI]
  | a :: l, h => by
    have h1 := h a List.mem_cons_self
    have h2 := sumI_le hb (l := l) fun x hx => h x (List.mem_cons_of_mem _ hx)
    rw [sumI_cons, List.length_cons, Int.natCast_add, Int.mul_add]
    simp only [Int.natCast_one, Int.mul_one] at *
    omega
theorem sumI_take {l : List Int} (h : ∀ x ∈ l, 0 ≤ x) (i : Nat) : 0 ≤ sumI (l.take i) ∧ sumI (l.take i) ≤ sumI l := by
  have h1 : sumI l = sumI (l.take i) + sumI (l.drop i) := by rw [← sumI_app, List.take_append_drop]
  have h2 := sumI_nonneg (l := l.take i) fun x hx => h x (List.mem_of_mem_take hx)
  have h3 := sumI_nonneg (l := l.drop i) fun x hx => h x (List.mem_of_mem_drop hx)
  omega
def capI : Int := 9007199254740991
theorem addI_small {a b : Int} (ha : 0 ≤ a) (hb : 0 ≤ b) (h : a + b ≤ capI) : addI a b = a + b := by
  unfold capI at h
  unfold addI
  rw [nearI_id (n := a) ⟨ha, by omega⟩, nearI_id (n := b) ⟨hb, by omega⟩, nearI_id ⟨by omega, h⟩]
def totI (s : List KC × Int) : Int := s.2 + sumI (s.1.map (·.2))
def posI (s : List KC × Int) : Prop := 0 ≤ s.2 ∧ ∀ x ∈ s.1.map (·.2), 0 ≤ x
theorem modify_sum (n : Int) : ∀ (L : List KC) (k : Nat), k < L.length → (∀ x ∈ L.map (·.2), 0 ≤ x) → 0 ≤ n → sumI (L.map (·.2)) + n ≤ capI →
    sumI ((L.modify k fun e => (e.1, addI e.2 n)).map (·.2)) = sumI (L.map (·.2)) + n ∧ ∀ x ∈ (L.modify k fun e => (e.1, addI e.2 n)).map (·.2), 0 ≤ x
  | [], k, hk, _, _, _ => absurd hk (Nat.not_lt_zero _)
  | e :: r, 0, _, h, hn, hs => by
    have h1 := h e.2 (by simp)
    have h2 := sumI_nonneg (l := r.map (·.2)) fun x hx => h x (by rw [List.map_cons]; exact List.mem_cons_of_mem _ hx)
    rw [List.map_cons, sumI_cons] at hs ⊢
    have h3 := addI_small h1 hn (by omega)
    rw [List.modify_zero_cons, List.map_cons, sumI_cons]
    dsimp only
    rw [h3]
    refine ⟨by omega, fun x hx => ?_⟩
    rcases List.mem_cons.1 hx with rfl | hx
    · omega
    · exact h x (by rw [List.map_cons]; exact List.mem_cons_of_mem _ hx)
  | e :: r, k + 1, hk, h, hn, hs => by
    have h1 := h e.2 (by simp)
    rw [List.map_cons, sumI_cons] at hs ⊢
    obtain ⟨h3, h4⟩ := modify_sum n r k (by rw [List.length_cons] at hk; omega) (fun x hx => h x (by rw [List.map_cons]; exact List.mem_cons_of_mem _ hx)) hn (by omega)
    rw [List.modify_succ_cons, List.map_cons, sumI_cons, h3]
    refine ⟨by omega, fun x hx => ?_⟩
    rcases List.mem_cons.1 hx with rfl | hx
    · exact h1
    · exact h4 x hx
theorem bestO_lt {L : List KC} {a k : Nat} (h : bestO L a = some k) : k < L.length := by
  have h1 := bestU_spec L a L.length
  rw [show bestU L a L.length = some k from h] at h1
  exact h1.1
theorem addF_tot {s : List KC × Int} (hp : posI s) {f : Fl} (hf : 0 ≤ f.by') (hs : totI s + f.by' ≤ capI) : totI (addF s f) = totI s + f.by' ∧ posI (addF s f) := by
  unfold addF
  have h0 := sumI_nonneg hp.2
  have h1 := hp.1
  unfold totI at hs
  cases hb : bestO s.1 f.dst with
  | none =>
    unfold addK'
    dsimp only
    have h3 := addI_small h1 hf (by omega)
    unfold totI posI
    dsimp only
    rw [h3]
    exact ⟨by omega, by omega, hp.2⟩
  | some k =>
    unfold addK'
    dsimp only
    obtain ⟨h3, h4⟩ := modify_sum f.by' s.1 k (bestO_lt hb) hp.2 hf (by omega)
    unfold totI posI
    dsimp only
    rw [h3]
    exact ⟨by omega, h1, h4⟩
theorem addAll_tot : ∀ {fs : List Fl} {s : List KC × Int}, posI s → (∀ f ∈ fs, 0 ≤ f.by') → totI s + sumI (fs.map (·.by')) ≤ capI → totI (addAll s fs) = totI s + sumI (fs.map (·.by')) ∧ posI (addAll s fs)
  | [], s, hp, _, _ => ⟨by simp [addAll, sumI], hp⟩
  | f :: r, s, hp, hf, hs => by
    rw [List.map_cons, sumI_cons] at hs ⊢
    have h0 := hf f List.mem_cons_self
    have h1 := sumI_nonneg (l := r.map (·.by')) fun x hx => by obtain ⟨g, hg, rfl⟩ := List.mem_map.1 hx; exact hf g (List.mem_cons_of_mem _ hg)
    obtain ⟨h2, h3⟩ := addF_tot hp h0 (by omega)
    obtain ⟨h4, h5⟩ := addAll_tot (fs := r) h3 (fun g hg => hf g (List.mem_cons_of_mem _ hg)) (by omega)
    exact ⟨by rw [show addAll s (f :: r) = addAll (addF s f) r from rfl, h4, h2]; omega, h5⟩
theorem ov_start (P : List PKi) : posI (ovL P, 0) ∧ totI (ovL P, 0) = 0 := by
  have h := (ovL_sorted P).2.2
  have h2 : ∀ x ∈ (ovL P).map (·.2), x = 0 := fun x hx => by obtain ⟨e, he, rfl⟩ := List.mem_map.1 hx; exact h e he
  have h3 : ∀ {l : List Int}, (∀ x ∈ l, x = 0) → sumI l = 0 := by
    intro l
    induction l with
    | nil => intro _; rfl
    | cons a l ih => intro hl; rw [sumI_cons, hl a List.mem_cons_self, ih fun x hx => hl x (List.mem_cons_of_mem _ hx)]; rfl
  refine ⟨⟨Int.le_refl _, fun x hx => by rw [h2 x hx]; exact Int.le_refl _⟩, ?_⟩
  unfold totI
  dsimp only
  rw [h3 h2]
  rfl
/-- flows of at most 200 records of at most 2^40 bytes: nothing is capped -/
theorem whole_is {P : List PKi} {fs : List Fl} (hl : fs.length ≤ 200) (hf : ∀ f ∈ fs, 0 ≤ f.by' ∧ f.by' ≤ 1099511627776) {L : List KC} {r : Int} (h : addAll (ovL P, 0) fs = (L, r)) : 0 ≤ r ∧ (∀ x ∈ L.map (·.2), 0 ≤ x) ∧ r + sumI (L.map (·.2)) = sumI (fs.map (·.by')) ∧ sumI (fs.map (·.by')) ≤ 219902325555200 := by
  have h1 : sumI (fs.map (·.by')) ≤ 1099511627776 * (fs.map (·.by')).length := sumI_le (by decide) fun x hx => by obtain ⟨g, hg, rfl⟩ := List.mem_map.1 hx; exact (hf g hg).2
  rw [List.length_map] at h1
  have h2 : sumI (fs.map (·.by')) ≤ 219902325555200 := by omega
  obtain ⟨h3, h4⟩ := ov_start P
  obtain ⟨h5, h6⟩ := addAll_tot (fs := fs) h3 (fun f hf' => (hf f hf').1) (by rw [h4]; unfold capI; omega)
  rw [h4, h, Int.zero_add] at h5
  rw [h] at h6
  exact ⟨h6.1, h6.2, h5, h2⟩
end Go.Proofs.Ytcbpdjenncbbeaa
/- SampleWhole. -/
namespace Go.Proofs.Ytcbpdjenncbbeaa
open Go.RowKit

theorem sumI_snoc {l : List Int} {i : Nat} (h : i < l.length) : sumI (l.take (i + 1)) = sumI (l.take i) + l.getD i 0 := by
  rw [takeS h, sumI_app]
  show _ = sumI (l.take i) + l.getD i 0
  rw [sumI_cons, show sumI ([] : List Int) = 0 from rfl, Int.add_zero]
  rfl
theorem by_take {fs : List Fl} {i : Nat} (h : i < fs.length) : sumI ((fs.take (i + 1)).map (·.by')) = sumI ((fs.take i).map (·.by')) + (fs.getD i default).by' := by
  rw [takeS h, List.map_append, sumI_app]
  show _ + sumI [_] = _
  rw [sumI_cons, show sumI ([] : List Int) = 0 from rfl, Int.add_zero]
theorem by_bnd {fs : List Fl} (hl : fs.length ≤ 200) (h : ∀ f ∈ fs, 0 ≤ f.by' ∧ f.by' ≤ 1099511627776) : 0 ≤ sumI (fs.map (·.by')) ∧ sumI (fs.map (·.by')) ≤ 219902325555200 := by
  have h1 : sumI (fs.map (·.by')) ≤ 1099511627776 * (fs.map (·.by')).length := sumI_le (by decide) fun x hx => by obtain ⟨g, hg, rfl⟩ := List.mem_map.1 hx; exact (h g hg).2
  rw [List.length_map] at h1
  exact ⟨sumI_nonneg fun x hx => by obtain ⟨g, hg, rfl⟩ := List.mem_map.1 hx; exact (h g hg).1, by omega⟩
theorem wrapI {n : Int} (h : 0 ≤ n) (h2 : n ≤ 219902325555200) : wrap64 n = n := by unfold wrap64; omega
set_option maxRecDepth 100000 in
set_option maxHeartbeats 8000000 in
theorem whole_law {w : World} {oa : Option Addr} {n c : Nat} {P : List PKi} {ob : Option Addr} {m d : Nat} {fs : List Fl} (h : Ins w oa n c P ob m d fs) : Calls Try.prog 4 #[.slice oa n c, .slice ob m d] w fun e w' => e = .returned (.bool true) ∧ Below w.heap.size w w' := by
  have F0 := Lib.hid (And.intro (Below.refl w.heap.size w) h)
  clear h
  go_enter Try.func4, Try.ntmps4
  by_cases hbig : 100 < n ∨ 200 < m
  · have HB : (((100 : Int) < (n : Int)) = True) ∨ (((100 : Int) < (n : Int)) = False ∧ ((200 : Int) < (m : Int)) = True) := by
      by_cases h : 100 < n
      · exact .inl (by simp; omega)
      · exact .inr ⟨by simp; omega, by simp; omega⟩
    clear hbig
    rcases HB with h1 | ⟨h1, h2⟩
    all_goals
      go_wp2_with fail
      refine (Ip.lives32 _).mono ?_
      rintro e W1 ⟨rfl, hb⟩
      have HB := Lib.hid hb
      clear hb
      go_wp2_with fail
      go_ret
      exact ⟨rfl, HB.out⟩
  · have h1 : ((100 : Int) < (n : Int)) = False := by simp; omega
    have h2 : ((200 : Int) < (m : Int)) = False := by simp; omega
    have HN := Lib.hid (show n ≤ 100 ∧ m ≤ 200 by omega)
    clear hbig
    by_cases hz : ovE P = 0
    · have HZ := Lib.hid hz
      clear hz
      go_wp2_with fail
      refine (over_any F0.out.2.p F0.out.2.pa (by have := HN.out; omega)).mono ?_
      rw [HZ.out]
      rintro e W1 ⟨(⟨h, -⟩ | ⟨-, x, tb, N, G, rfl, ht, hG⟩), hb⟩
      · exact absurd rfl h
      have F4 := Lib.hid (And.intro (bcall F0.out.1 (Nat.le_refl _) hb) (And.intro F0.out.2 (And.intro ht (And.intro hG (ht.lts)))))
      clear F0
      clear hb ht hG
      go_wp2_with fail
      refine (Ip.lives32 _).mono ?_
      rintro e W3 ⟨rfl, hb⟩
      have F5 := Lib.hid (And.intro (bcall F4.out.1 (Nat.le_refl _) hb) (And.intro F4.out.2.1 (And.intro (F4.out.2.2.1.keep hb) (And.intro F4.out.2.2.2.1 (And.intro F4.out.2.2.2.2 ((F4.out.2.1.f.keep (bcall F4.out.1 (Nat.le_refl _) hb))))))))
      clear F4
      clear hb
      go_wp2_with fail
      go_loopw [7, 8] (fun sv iv wr => ∃ i : Nat, i ≤ m ∧ iv = .int .i64 i ∧ wr = W3 ∧ sv = .int .i64 (sumI ((fs.take i).map (·.by'))) ∧ ∀ f ∈ fs.take i, 0 ≤ f.by' ∧ f.by' ≤ 1099511627776) (fun _ iv _ => m - (intOf iv).toNat)
      case atStart => exact ⟨0, Nat.zero_le _, rfl, rfl, rfl, fun f hf => by cases hf⟩
      case round =>
        obtain ⟨i, hi, rfl, hwr, rfl, hall⟩ := hrel
        have hwr := hwr.symm
        subst hwr
        by_cases hlt : i < m
        · have hil : ((i : Int) < (m : Int)) = True := by simp; omega
          have hi0 : ((0 : Int) ≤ (i : Int)) = True := by simp
          have hwi := wrapS hlt (show m ≤ maxLen by have := HN.out; unfold maxLen; omega)
          obtain ⟨b, o, rfl, hbb, hat⟩ := F5.out.2.2.2.2.2.at hlt
          have hil2 : i < fs.length := by have := F5.out.2.1.f.len; omega
          have hbt := by_take hil2
          have hal2 := takeS hil2
          have hsb := by_bnd (fs := fs.take i) (by rw [List.length_take]; have := HN.out; omega) hall
          obtain ⟨f, hf⟩ : ∃ f, fs.getD i default = f := ⟨_, rfl⟩
          rw [hf] at hat hbt hal2
          obtain ⟨u, v, z⟩ := f
          have c2 : W3.cell? ⟨b, o + i * 3 + 2, none⟩ = some (.int .i64 z) := hat 2 (by decide)
          dsimp only at hbt
          generalize hS : sumI ((fs.take i).map (·.by')) = S at *
          clear hat hf
          by_cases hz0 : z < 0
          · have hzt : (z < 0) = True := eq_true hz0
            clear hz0 hbt hal2 hsb hall
            go_wp2_with fail
            go_ret
            exact ⟨rfl, F5.out.1⟩
          · have hzf : (z < 0) = False := eq_false hz0
            by_cases hz1 : 1099511627776 < z
            · have hzt : (1099511627776 < z) = True := eq_true hz1
              clear hz0 hz1 hbt hal2 hsb hall
              go_wp2_with fail
              go_ret
              exact ⟨rfl, F5.out.1⟩
            · have hzg : (1099511627776 < z) = False := eq_false hz1
              have hall2 : ∀ f ∈ fs.take (i + 1), 0 ≤ f.by' ∧ f.by' ≤ 1099511627776 := fun f hf => by
                rw [hal2] at hf
                rcases List.mem_append.1 hf with hf | hf
                · exact hall f hf
                · rw [List.mem_singleton] at hf
                  rw [hf]
                  exact ⟨by dsimp only; omega, by dsimp only; omega⟩
              have hsw : wrap64 (S + z) = S + z := by unfold wrap64; omega
              have HJ := Lib.hid (And.intro hlt (And.intro hwi (And.intro hall2 hbt)))
              clear hz0 hz1 hbt hal2 hsb hall hlt hi hall2 hil2
              go_wp2_with fail
              exact ⟨⟨i + 1, HJ.out.1, by first | rw [HJ.out.2.1] | rw [Int.natCast_succ], by first | exact trivial | rfl, by rw [hsw, HJ.out.2.2.2], HJ.out.2.2.1⟩, by first | (rw [HJ.out.2.1]; exact mSucc HJ.out.1) | (rw [← Int.natCast_succ]; exact mSucc HJ.out.1)⟩
        · obtain rfl : i = m := by omega
          have hil : ((i : Int) < (i : Int)) = False := by simp
          rw [List.take_of_length_le (by have := F5.out.2.1.f.len; omega)] at hall ⊢
          have HA := Lib.hid hall
          clear hall hlt hi
          go_wp2_with fail
          refine (adds_any F5.out.2.2.1 F5.out.2.2.2.2.2 F5.out.2.1.fa).mono ?_
          rintro e W4 ⟨rfl, G2, r2, ht, hbs, hadd, hb⟩
          rw [F5.out.2.2.2.1] at hadd
          have hlo : ∀ b ∈ bsG x G, w.heap.size ≤ b ∧ b < W1.heap.size := fun b hb => F5.out.2.2.2.2.1 b (.inl hb)
          have hbb := Below.step F5.out.1 F5.out.1.size hb (fun b hb => (hlo b hb).1)
          have hwh := whole_is (P := P) (fs := fs) (by have := F5.out.2.1.f.len; have := HN.out; omega) HA.out hadd
          have hgl : (G2.map gC).length ≤ 100 := by
            have h1 := congrArg List.length hbs
            have h2 := congrArg List.length F5.out.2.2.2.1
            have h3 := (ovL_len P).1
            have h4 := F5.out.2.1.p.len
            rw [List.length_map, List.length_map] at h1
            rw [List.length_map] at h2 ⊢
            have := HN.out
            omega
          have F6 := Lib.hid (And.intro hbb (And.intro F5.out.2.1 (And.intro ht (And.intro hwh (hgl)))))
          clear F5
          clear hb ht hbs hadd hlo hbb hwh hgl
          go_wp2_with fail
          refine (rest_any F6.out.2.2.1).mono ?_
          rintro e W5 ⟨rfl, rfl⟩
          go_wp2_with fail
          refine (report_any F6.out.2.2.1 (by have := F6.out.2.2.2.2; rw [List.length_map] at this; omega) 0 0).mono ?_
          rintro e W6 ⟨⟨v, rfl, ho⟩, hb⟩
          obtain ⟨oe, ce, rfl, hse, -⟩ := ho.sl0
          obtain ⟨ln, hln⟩ : ∃ ln, (G2.map gC).length = ln := ⟨_, rfl⟩
          rw [hln] at hse ⊢
          have F7 := Lib.hid (And.intro (bcall F6.out.1 (Nat.le_refl _) hb) (And.intro F6.out.2.1 (And.intro (F6.out.2.2.1.keep hb) (And.intro F6.out.2.2.2.1 (And.intro F6.out.2.2.2.2 (And.intro hse (hln)))))))
          clear F6
          clear hb ho hse
          go_wp2_with (with_reducible refine halt_store 35 rfl ?_)
          refine Halted.go ?_
          have hal := (Below.refl W6.heap.size W6).alloc (Nat.le_refl _) (.cells #[.int .i64 0, .int .i64 0, .slice none 0 0] 35)
          have hzz := hnew W6 (.cells #[.int .i64 0, .int .i64 0, .slice none 0 0] 35)
          refine store_whole rfl 35 _ _ rfl W6.heap.size #[.int .i64 0, .int .i64 0, .slice oe ln ce] rfl rfl hzz rfl (by kernel_rfl) (by simp [Value.oneCell']) ?_
          intro W7 hz hsz
          have hb := Below.trans hal (hsz.below (Nat.le_refl _))
          obtain ⟨q9, hq9⟩ : ∃ q, W6.heap.size = q := ⟨_, rfl⟩
          rw [hq9] at hz
          try rw [hq9]
          have F8 := Lib.hid (And.intro (bcall F7.out.1 (Nat.le_refl _) hb) (And.intro F7.out.2.1 (And.intro (F7.out.2.2.1.keep hb) (And.intro F7.out.2.2.2.1 (And.intro F7.out.2.2.2.2.1 (And.intro (F7.out.2.2.2.2.2.1.keep hb) (And.intro F7.out.2.2.2.2.2.2 (hz))))))))
          clear F7
          clear hb hal hzz hz hsz hq9 hln
          go_wp2_with fail
          go_loopw [9, 11] (fun sv iv wr => ∃ i : Nat, i ≤ ln ∧ iv = .int .i64 i ∧ wr = W7 ∧ sv = .int .i64 (r2 + sumI (((G2.map gC).map (·.2)).take i))) (fun _ iv _ => ln - (intOf iv).toNat)
          case atStart => exact ⟨0, Nat.zero_le _, rfl, rfl, by rw [List.take_zero, show sumI ([] : List Int) = 0 from rfl, Int.add_zero]⟩
          case round =>
            obtain ⟨i, hi, rfl, hwr, rfl⟩ := hrel
            have hwr := hwr.symm
            subst hwr
            have y2 := cell_of (o := 2) F8.out.2.2.2.2.2.2.2 rfl
            by_cases hlt : i < ln
            · have hil : ((i : Int) < (ln : Int)) = True := by simp; omega
              have hi0 : ((0 : Int) ≤ (i : Int)) = True := by simp
              have hwi := wrapS hlt (show ln ≤ maxLen by have := F8.out.2.2.2.2.1; have := F8.out.2.2.2.2.2.2.1; unfold maxLen; omega)
              obtain ⟨b, o, rfl, hbb, hat⟩ := F8.out.2.2.2.2.2.1.at hlt
              have hil2 : i < ((G2.map gC).map (·.2)).length := by rw [List.length_map]; have := F8.out.2.2.2.2.2.2.1; omega
              obtain ⟨e, he⟩ : ∃ e, (G2.map gC).getD i default = e := ⟨_, rfl⟩
              have hsn := sumI_snoc hil2
              have hge : ((G2.map gC).map (·.2)).getD i 0 = e.2 := by
                rw [← he, List.getD_eq_getElem?_getD, List.getD_eq_getElem?_getD, List.getElem?_map]
                cases h : (G2.map gC)[i]? with
                | none => rw [List.getElem?_eq_none_iff] at h; have := F8.out.2.2.2.2.2.2.1; omega
                | some y => rfl
              rw [hge] at hsn
              rw [he] at hat
              obtain ⟨⟨u, v⟩, z⟩ := e
              have c2 : W7.cell? ⟨b, o + i * 3 + 2, none⟩ = some (.int .i64 z) := hat 2 (by decide)
              dsimp only at hsn
              have hwh := F8.out.2.2.2.1
              have ht1 := sumI_take hwh.2.1 (i + 1)
              have ht0 := sumI_take hwh.2.1 i
              generalize hS : sumI (((G2.map gC).map (·.2)).take i) = S at *
              have hsw : wrap64 (r2 + S + z) = r2 + S + z := by unfold wrap64; omega
              have HJ := Lib.hid (And.intro hlt (And.intro hwi hsn))
              clear hat he hsn hwh ht1 ht0 hS hge hi hlt hil2
              go_wp2_with fail
              exact ⟨⟨i + 1, HJ.out.1, by first | rw [HJ.out.2.1] | rw [Int.natCast_succ], by first | exact trivial | rfl, by rw [hsw, HJ.out.2.2, Int.add_assoc]⟩, by first | (rw [HJ.out.2.1]; exact mSucc HJ.out.1) | (rw [← Int.natCast_succ]; exact mSucc HJ.out.1)⟩
            · obtain rfl : i = ln := by omega
              have hil : ((i : Int) < (i : Int)) = False := by simp
              rw [List.take_of_length_le (by rw [List.length_map]; have := F8.out.2.2.2.2.2.2.1; omega)]
              rw [F8.out.2.2.2.1.2.2.1]
              clear hi hlt
              go_wp2_with fail
              go_ret
              exact ⟨rfl, F8.out.1⟩
    · obtain ⟨z, hze⟩ : ∃ z, ovE P = z := ⟨_, rfl⟩
      rw [hze] at hz
      have h3 : (z = 0) = False := eq_false hz
      have HZ := Lib.hid (And.intro hz hze)
      clear hz hze
      go_wp2_with fail
      refine (over_any F0.out.2.p F0.out.2.pa (by have := HN.out; omega)).mono ?_
      rw [HZ.out.2]
      rintro e W1 ⟨(⟨-, rfl⟩ | ⟨h, -⟩), hb⟩
      rotate_left
      · exact absurd h HZ.out.1
      have F1 := Lib.hid (And.intro (bcall F0.out.1 (Nat.le_refl _) hb) (F0.out.2))
      clear F0
      clear hb
      go_wp2_with fail
      refine (Ip.lives32 _).mono ?_
      rintro e W2 ⟨rfl, hb⟩
      have F2 := Lib.hid (And.intro (bcall F1.out.1 (Nat.le_refl _) hb) (F1.out.2))
      clear F1
      clear hb
      go_wp2_with fail
      refine (Ip.lives32 _).mono ?_
      rintro e W3 ⟨rfl, hb⟩
      have F3 := Lib.hid (And.intro (bcall F2.out.1 (Nat.le_refl _) hb) (F2.out.2))
      clear F2
      clear hb
      go_wp2_with fail
      go_ret
      exact ⟨rfl, F3.out.1⟩
end Go.Proofs.Ytcbpdjenncbbeaa
/- SampleMany. -/
namespace Go.Proofs.Ytcbpdjenncbbeaa
open Go.RowKit

def mkP (n : Nat) : List PKi := (List.range n).map fun k => (k * 65536, 16)
theorem mkP_len (n : Nat) : (mkP n).length = n := by unfold mkP; rw [List.length_map, List.length_range]
theorem mkP_succ (n : Nat) : mkP (n + 1) = mkP n ++ [(n * 65536, 16)] := by unfold mkP; rw [List.range_succ, List.map_append]; rfl
theorem mkP_mem {n : Nat} {p : PKi} (h : p ∈ mkP n) : ∃ k, k < n ∧ p = (k * 65536, 16) := by
  obtain ⟨k, hk, rfl⟩ := List.mem_map.1 h
  exact ⟨k, List.mem_range.1 hk, rfl⟩
theorem mkP_ov {n : Nat} (_hn : n ≤ 1100) : ovE (mkP n) = if 1024 < n then 3 else 0 := by
  have h1 : okAll (mkP n) = true := List.all_eq_true.2 fun p hp => by
    obtain ⟨k, hk, rfl⟩ := mkP_mem hp
    unfold okP cut
    simp only [Bool.and_eq_true, decide_eq_true_eq]
    exact ⟨⟨by decide, by decide⟩, by show k * 65536 / 65536 * 65536 = k * 65536; omega⟩
  have h2 : ((mkP n).map keyP).Nodup := by
    unfold mkP
    rw [List.map_map]
    exact List.Pairwise.map _ (fun a b hab h => hab (by have := congrArg (·.1) h; simp [keyP] at this; omega)) List.nodup_range
  unfold ovE
  rw [if_pos ⟨h1, h2⟩, mkP_len]
set_option maxRecDepth 100000 in
set_option maxHeartbeats 8000000 in
theorem many_law (w : World) (ni : Int) (hni : -9223372036854775808 ≤ ni ∧ ni ≤ 9223372036854775807) (ob : Option Addr) (m d : Nat) : Calls Try.prog 5 #[.int .i64 ni, .slice ob m d] w fun e w' => e = .returned (.bool true) ∧ Below w.heap.size w w' := by
  go_enter Try.func5, Try.ntmps5
  by_cases hbig : ni < 0 ∨ 1100 < ni ∨ 3000 < m
  · have HB : ((ni < 0) = True) ∨ ((ni < 0) = False ∧ (1100 < ni) = True) ∨ ((ni < 0) = False ∧ (1100 < ni) = False ∧ ((3000 : Int) < (m : Int)) = True) := by
      by_cases h : ni < 0
      · exact .inl (eq_true h)
      · by_cases h2 : 1100 < ni
        · exact .inr (.inl ⟨eq_false h, eq_true h2⟩)
        · exact .inr (.inr ⟨eq_false h, eq_false h2, by simp; omega⟩)
    clear hbig hni
    rcases HB with h1 | ⟨h1, h2⟩ | ⟨h1, h2, h3⟩
    all_goals
      go_wp2_with fail
      refine (Ip.lives32 _).mono ?_
      rintro e W1 ⟨rfl, hb⟩
      have HB := Lib.hid hb
      clear hb
      go_wp2_with fail
      go_ret
      exact ⟨rfl, HB.out⟩
  · obtain ⟨n, rfl⟩ : ∃ n : Nat, ni = n := ⟨ni.toNat, by omega⟩
    have h1 : ((n : Int) < 0) = False := by simp
    have h2 : ((1100 : Int) < (n : Int)) = False := by simp; omega
    have h3 : ((3000 : Int) < (m : Int)) = False := by simp; omega
    have HN := Lib.hid (show n ≤ 1100 by omega)
    clear hbig hni
    go_wp2_with fail
    go_loopw [5, 6] (fun lv iv wr => ∃ i : Nat, i ≤ n ∧ iv = .int .i64 i ∧ RPk.Own wr w.heap.size lv (mkP i) ∧ Below w.heap.size w wr) (fun _ iv _ => n - (intOf iv).toNat)
    case atStart => exact ⟨0, Nat.zero_le _, rfl, Rep.Own.nil _ _, Below.refl _ _⟩
    case round =>
      obtain ⟨i, hi, rfl, hown, hb⟩ := hrel
      obtain ⟨w2, rfl⟩ : ∃ w2 : World, w2 = wr := ⟨_, rfl⟩
      obtain ⟨oe, ce, rfl, -, -⟩ := hown.sl0
      rw [mkP_len] at *
      by_cases hlt : i < n
      · have hil : ((i : Int) < (n : Int)) = True := by simp; omega
        have hwi := wrapS hlt (show n ≤ maxLen by have := HN.out; unfold maxLen; omega)
        have G0 := Lib.hid (And.intro hown hb)
        have HJ := Lib.hid (And.intro hlt hwi)
        clear hown hb hlt hi
        go_wp2_with (at_builtin; refine halt ?_)
        refine Halted.go ?_
        have hv : (i : Int) % 4294967296 * 65536 % 4294967296 = ((i * 65536 : Nat) : Int) := by have := HJ.out.1; have := HN.out; omega
        rw [hv]
        clear hv
        have hal := (Below.refl w2.heap.size w2).alloc (Nat.le_refl _) (.cells #[.int .u32 ((i * 65536 : Nat) : Int), .int .i64 16] 46)
        have hone : RPk.Sl (w2.alloc (.cells #[.int .u32 ((i * 65536 : Nat) : Int), .int .i64 16] 46)) (some ⟨w2.heap.size, 0, none⟩) 1 1 [((i * 65536, 16) : PKi)] := Rep.sl_one (R := RPk) (y := ((i * 65536, 16) : PKi)) (hnew _ _)
        have F1 := Lib.hid (And.intro (bcall G0.out.2 (Nat.le_refl _) hal) (And.intro (G0.out.1.below hal) hone))
        clear hal hone
        generalize w2.alloc (.cells #[.int .u32 ((i * 65536 : Nat) : Int), .int .i64 16] 46) = V1 at *
        generalize w2.heap.size = q at *
        refine Rep.append_list TPk rfl _ _ rfl rfl F1.out.2.1 rfl F1.out.2.2 (fun h => by cases h) (by rw [mkP_len]; have := HJ.out.1; have := HN.out; unfold maxLen; omega) (by rw [mkP_len]; have := HJ.out.1; have := HN.out; omega) F1.out.1.size ?_
        intro v8 V4 hown8 hb8 _
        rw [← mkP_succ] at hown8
        obtain ⟨o8, c8, rfl, -, -⟩ := hown8.sl0
        rw [mkP_len] at hown8 ⊢
        have F2 := Lib.hid (And.intro hown8 (F1.out.1.trans hb8))
        clear hown8 hb8
        go_wp2_with fail
        exact ⟨⟨i + 1, HJ.out.1, by first | rw [HJ.out.2] | rw [Int.natCast_succ], F2.out⟩, by first | (rw [HJ.out.2]; exact mSucc HJ.out.1) | (rw [← Int.natCast_succ]; exact mSucc HJ.out.1)⟩
      · obtain rfl : i = n := by omega
        have hil : ((i : Int) < (i : Int)) = False := by simp
        obtain ⟨oa, c, hv, hsl, -⟩ : ∃ oa c, Value.slice oe i ce = .slice oa i c ∧ RPk.Sl w2 oa i c (mkP i) ∧ True := by
          obtain ⟨oa, c, h1, -, -, h2, -⟩ := hown.sl
          rw [mkP_len] at h1 h2
          exact ⟨oa, c, h1, h2, trivial⟩
        injection hv with h4 h5 h6
        subst h4 h6
        have F0 := Lib.hid (And.intro hb hsl)
        clear hown hb hsl hi hlt h5
        by_cases hbig : 1024 < i
        · have hb1 : ((1024 : Int) < (i : Int)) = True := by simp; omega
          have HE := Lib.hid (show ovE (mkP i) = 3 by rw [mkP_ov HN.out, if_pos hbig])
          clear hbig
          go_wp2_with fail
          refine (over_any F0.out.2 (fun p hp => by obtain ⟨k, hk, rfl⟩ := mkP_mem hp; have := HN.out; show k * 65536 < 4294967296; omega) (by have := HN.out; omega)).mono ?_
          rw [HE.out]
          rintro e W1 ⟨(⟨-, rfl⟩ | ⟨h, -⟩), hb⟩
          rotate_left
          · exact absurd h (by decide)
          have F1 := Lib.hid (And.intro (bcall F0.out.1 (Nat.le_refl _) hb) ((F0.out.2.keep hb)))
          clear F0
          clear hb
          go_wp2_with fail
          have hal := (Below.refl W1.heap.size W1).alloc (Nat.le_refl _) (.cells #[.int .i64 0, .int .u32 0, .int .i64 1] 44)
          have F2 := Lib.hid (And.intro (bcall F1.out.1 (Nat.le_refl _) hal) ((F1.out.2.keep hal)))
          clear F1
          clear hal
          generalize W1.alloc (.cells #[.int .i64 0, .int .u32 0, .int .i64 1] 44) = W2 at *
          generalize W1.heap.size = q1 at *
          refine (adds_nil W2).mono ?_
          rintro e W3 ⟨rfl, rfl⟩
          go_wp2_with fail
          refine (Ip.ctake_nil _ _).mono ?_
          rintro e W4 ⟨rfl, rfl⟩
          go_wp2_with fail
          refine (Ip.lives32 _).mono ?_
          rintro e W5 ⟨rfl, hb⟩
          have F3 := Lib.hid (And.intro (bcall F2.out.1 (Nat.le_refl _) hb) ((F2.out.2.keep hb)))
          clear F2
          clear hb
          go_wp2_with fail
          refine (Ip.clost_nil _).mono ?_
          rintro e W6 ⟨rfl, rfl⟩
          go_wp2_with fail
          refine (Ip.cbad_nil _).mono ?_
          rintro e W6 ⟨rfl, rfl⟩
          go_wp2_with fail
          refine (Ip.cknown_nil _).mono ?_
          rintro e W6 ⟨rfl, rfl⟩
          go_wp2_with fail
          refine (rest_nil _).mono ?_
          rintro e W6 ⟨rfl, rfl⟩
          go_wp2_with fail
          refine (report_nil 1 2 _).mono ?_
          rintro e W7 ⟨rfl, hb⟩
          have kf : (Instr.field 35 (.agg #[.int .i64 1, .int .i64 2, .slice none 0 0]) 2).run Try.prog W7 = .ok (.slice none 0 0) W7 := by kernel_rfl
          have F4 := Lib.hid (And.intro (bcall F3.out.1 (Nat.le_refl _) hb) ((F3.out.2.keep hb)))
          clear F3
          clear hb
          go_wp2_with fail
          go_ret
          exact ⟨rfl, F4.out.1⟩
        · have hb1 : ((1024 : Int) < (i : Int)) = False := by simp; omega
          have hb2 : ((i : Int) ≤ (1024 : Int)) = True := by simp; omega
          have HE := Lib.hid (show ovE (mkP i) = 0 by rw [mkP_ov HN.out, if_neg hbig])
          clear hbig
          go_wp2_with fail
          refine (over_any F0.out.2 (fun p hp => by obtain ⟨k, hk, rfl⟩ := mkP_mem hp; have := HN.out; show k * 65536 < 4294967296; omega) (by have := HN.out; omega)).mono ?_
          rw [HE.out]
          rintro e W1 ⟨(⟨h, -⟩ | ⟨-, x, tb, N, G, rfl, -, -⟩), hb⟩
          · exact absurd rfl h
          have F5 := Lib.hid (And.intro (bcall F0.out.1 (Nat.le_refl _) hb) ((F0.out.2.keep hb)))
          clear F0
          clear hb
          go_wp2_with fail
          have hal := (Below.refl W1.heap.size W1).alloc (Nat.le_refl _) (.cells #[.int .i64 0, .int .u32 0, .int .i64 1] 44)
          have F6 := Lib.hid (And.intro (bcall F5.out.1 (Nat.le_refl _) hal) ((F5.out.2.keep hal)))
          clear F5
          clear hal
          generalize W1.alloc (.cells #[.int .i64 0, .int .u32 0, .int .i64 1] 44) = W2 at *
          generalize W1.heap.size = q1 at *
          refine (adds_nil W2).mono ?_
          rintro e W3 ⟨rfl, rfl⟩
          go_wp2_with fail
          refine (Ip.ctake_nil _ _).mono ?_
          rintro e W4 ⟨rfl, rfl⟩
          go_wp2_with fail
          refine (Ip.lives32 _).mono ?_
          rintro e W5 ⟨rfl, hb⟩
          have F7 := Lib.hid (And.intro (bcall F6.out.1 (Nat.le_refl _) hb) ((F6.out.2.keep hb)))
          clear F6
          clear hb
          go_wp2_with fail
          refine (Ip.clost_nil _).mono ?_
          rintro e W6 ⟨rfl, rfl⟩
          go_wp2_with fail
          refine (Ip.cbad_nil _).mono ?_
          rintro e W6 ⟨rfl, rfl⟩
          go_wp2_with fail
          refine (Ip.cknown_nil _).mono ?_
          rintro e W6 ⟨rfl, rfl⟩
          go_wp2_with fail
          refine (rest_nil _).mono ?_
          rintro e W6 ⟨rfl, rfl⟩
          go_wp2_with fail
          refine (report_nil 1 2 _).mono ?_
          rintro e W7 ⟨rfl, hb⟩
          have kf : (Instr.field 35 (.agg #[.int .i64 1, .int .i64 2, .slice none 0 0]) 2).run Try.prog W7 = .ok (.slice none 0 0) W7 := by kernel_rfl
          have F8 := Lib.hid (And.intro (bcall F7.out.1 (Nat.le_refl _) hb) ((F7.out.2.keep hb)))
          clear F7
          clear hb
          go_wp2_with fail
          go_ret
          exact ⟨rfl, F8.out.1⟩
end Go.Proofs.Ytcbpdjenncbbeaa
/- Arguments that come in: chapter 32. -/
namespace Go.Proofs.Ytcbpdjenncbbeaa
open Go.ChangeShapes Go.WideShapes Go.ChangeAt Go.RowKit Go.Deep

def I3 (n : Int) : Prop := -9223372036854775808 ≤ n ∧ n ≤ 9223372036854775807
theorem reads3 : Reads Try.prog 3 (fun n : Int => [.int .i64 n]) (fun _ n => I3 n) := (Reads.int Try.underlying3).conv fun _ n h => ⟨n, rfl, wf64 h⟩
theorem readsU : Reads Try.prog 42 (fun n : Nat => [.int .u32 (n : Int)]) (fun _ n => n < 4294967296) := (Reads.int Try.underlying42).conv fun _ n h => ⟨n.toNat, by rw [Int.toNat_of_nonneg (wfu32 h).1], by have := wfu32 h; omega⟩
theorem reads8 : Reads Try.prog 5 Ip.RB.cells (fun _ b => b < 256) := (Reads.int Try.underlying5).conv fun _ n h => ⟨n.toNat, by have := (wfu8 h).1; simp [Ip.RB, Int.toNat_of_nonneg this], by have := wfu8 h; omega⟩
def pIn (_w : World) (x : PKi) : Prop := x.1 < 4294967296
def fIn (_w : World) (x : Fl) : Prop := x.dst < 4294967296
set_option maxRecDepth 100000 in
theorem readsP : Reads Try.prog 46 (RPk.cells) (pIn) :=
  ⟨fun {H enc w spare held fuel cs x} h => by
    obtain ⟨hl, hf⟩ := Reads.fields Try.underlying46 h
    rw [show Try.prog.cellsOf 46 = 2 by kernel_rfl] at hl
    obtain ⟨c0, c1, rfl⟩ : ∃ c0 c1, cs = [c0, c1] := by
      match cs, hl with
      | [c0, c1], _ => exact ⟨c0, c1, rfl⟩
    obtain ⟨n0, y0, h0⟩ := hf 0 _ rfl
    have h0 : DataW.trod enc Try.prog w 0 spare held n0 42 [c0] = some y0 := by
      have q : Try.prog.cellsOf 42 = 1 := by kernel_rfl
      have z : DataW.trod enc Try.prog w 0 spare held n0 42 (([c0, c1].drop 0).take (Try.prog.cellsOf 42)) = some y0 := h0
      rw [q] at z; exact z
    obtain ⟨a0, e0, k0⟩ := (readsU).read h0
    obtain ⟨n1, y1, h1⟩ := hf 1 _ rfl
    have h1 : DataW.trod enc Try.prog w 0 spare held n1 3 [c1] = some y1 := by
      have q : Try.prog.cellsOf 3 = 1 := by kernel_rfl
      have z : DataW.trod enc Try.prog w 0 spare held n1 3 (([c0, c1].drop 1).take (Try.prog.cellsOf 3)) = some y1 := h1
      rw [q] at z; exact z
    obtain ⟨a1, e1, k1⟩ := (reads3).read h1
    simp only [List.cons.injEq, and_true] at e0 e1
    subst e0
    subst e1
    exact ⟨(a0, a1), rfl, k0⟩⟩
set_option maxRecDepth 100000 in
theorem readsF : Reads Try.prog 44 (RFl.cells) (fIn) :=
  ⟨fun {H enc w spare held fuel cs x} h => by
    obtain ⟨hl, hf⟩ := Reads.fields Try.underlying44 h
    rw [show Try.prog.cellsOf 44 = 3 by kernel_rfl] at hl
    obtain ⟨c0, c1, c2, rfl⟩ : ∃ c0 c1 c2, cs = [c0, c1, c2] := by
      match cs, hl with
      | [c0, c1, c2], _ => exact ⟨c0, c1, c2, rfl⟩
    obtain ⟨n0, y0, h0⟩ := hf 0 _ rfl
    have h0 : DataW.trod enc Try.prog w 0 spare held n0 3 [c0] = some y0 := by
      have q : Try.prog.cellsOf 3 = 1 := by kernel_rfl
      have z : DataW.trod enc Try.prog w 0 spare held n0 3 (([c0, c1, c2].drop 0).take (Try.prog.cellsOf 3)) = some y0 := h0
      rw [q] at z; exact z
    obtain ⟨a0, e0, k0⟩ := (reads3).read h0
    obtain ⟨n1, y1, h1⟩ := hf 1 _ rfl
    have h1 : DataW.trod enc Try.prog w 0 spare held n1 42 [c1] = some y1 := by
      have q : Try.prog.cellsOf 42 = 1 := by kernel_rfl
      have z : DataW.trod enc Try.prog w 0 spare held n1 42 (([c0, c1, c2].drop 1).take (Try.prog.cellsOf 42)) = some y1 := h1
      rw [q] at z; exact z
    obtain ⟨a1, e1, k1⟩ := (readsU).read h1
    obtain ⟨n2, y2, h2⟩ := hf 2 _ rfl
    have h2 : DataW.trod enc Try.prog w 0 spare held n2 3 [c2] = some y2 := by
      have q : Try.prog.cellsOf 3 = 1 := by kernel_rfl
      have z : DataW.trod enc Try.prog w 0 spare held n2 3 (([c0, c1, c2].drop 2).take (Try.prog.cellsOf 3)) = some y2 := h2
      rw [q] at z; exact z
    obtain ⟨a2, e2, k2⟩ := (reads3).read h2
    simp only [List.cons.injEq, and_true] at e0 e1 e2
    subst e0
    subst e1
    subst e2
    exact ⟨⟨a0, a1, a2⟩, rfl, k1⟩⟩
theorem readsPs : Reads Try.prog 22 (fun s : SlV PKi => [.slice s.a s.n s.c]) (SlOk RPk pIn) := Reads.slice (R := RPk) Try.underlying22 (by kernel_rfl) readsP
theorem readsFs : Reads Try.prog 23 (fun s : SlV Fl => [.slice s.a s.n s.c]) (SlOk RFl fIn) := Reads.slice (R := RFl) Try.underlying23 (by kernel_rfl) readsF
theorem readsBs : Reads Try.prog 50 (fun s : SlV Nat => [.slice s.a s.n s.c]) (SlOk Ip.RB (fun _ b => b < 256)) := Reads.slice (R := Ip.RB) Try.underlying50 (by kernel_rfl) reads8
theorem laidOut : laidOutB Try.prog = true := Ip.laidOut
theorem own : ownKnob Try.prog.godebug = none := by kernel_rfl
theorem ins_of {w : World} {s : SlV PKi} {r : SlV Fl} (h : SlOk RPk pIn w s) (k : SlOk RFl fIn w r) : Ins w s.a s.n s.c s.l r.a r.n r.c r.l := ⟨h.sl, fun x hx => h.all x hx, k.sl, fun x hx => k.all x hx⟩
theorem totals_i {w : World} {s : SlV PKi} {r : SlV Fl} (h : SlOk RPk pIn w s) (k : SlOk RFl fIn w r) (a b : Int) : Calls Try.prog 3 #[.slice s.a s.n s.c, .slice r.a r.n r.c, .int .i64 a, .int .i64 b] w fun e w' => e = .returned (.bool true) ∧ Below w.heap.size w w' := totals_law (ins_of h k) a b
theorem whole_i {w : World} {s : SlV PKi} {r : SlV Fl} (h : SlOk RPk pIn w s) (k : SlOk RFl fIn w r) : Calls Try.prog 4 #[.slice s.a s.n s.c, .slice r.a r.n r.c] w fun e w' => e = .returned (.bool true) ∧ Below w.heap.size w w' := whole_law (ins_of h k)
theorem many_i (w : World) {n : Int} (hn : I3 n) (s : SlV Nat) : Calls Try.prog 5 #[.int .i64 n, .slice s.a s.n s.c] w fun e w' => e = .returned (.bool true) ∧ Below w.heap.size w w' := many_law w n hn s.a s.n s.c
end Go.Proofs.Ytcbpdjenncbbeaa
