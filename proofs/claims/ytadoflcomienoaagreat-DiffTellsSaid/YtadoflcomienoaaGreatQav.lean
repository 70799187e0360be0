/- Plain law: what the updates of anything that may be said are. -/
import Derived.Test.YtadoflcomienoaaGreatQar
import Derived.Test.YtadoflcomienoaaGreatQau
import Derived.Test.YtadoflcomienoaaGreatQap
namespace Go.Proofs.YtadoflcomienoaaGreat
open Go.RowKit

theorem szN_5 (n : Nl) : szN n ≤ 5 := by
  unfold szN nb pb
  have h := be_length 4 n.a
  simp only [Bool.false_eq_true, if_false, List.nil_append, List.length_cons, List.length_take]
  omega
theorem chunksI_mem {α : Type} {f : List α → Nat} : ∀ {n : Nat} {l c : List α}, c ∈ chunksI f n l → ∃ k, l.drop k ≠ [] ∧ c = (l.drop k).take (f (l.drop k))
  | 0, l, c, h => by cases h
  | n + 1, [], c, h => by cases h
  | n + 1, x :: r, c, h => by
    rcases List.mem_cons.1 h with h | h
    · exact ⟨0, by simp, by simpa using h⟩
    · obtain ⟨k, h1, h2⟩ := chunksI_mem h
      refine ⟨f (x :: r) + k, ?_, ?_⟩
      · rwa [List.drop_drop] at h1
      · rwa [List.drop_drop] at h2
def okZ (four : Bool) (s : Sy) : Bool := okP s.k.1 s.k.2 && okA four s.a
theorem okY_all {four : Bool} {L : List Sy} : okY four L = true ↔ (∀ s ∈ L, okZ four s = true) ∧ (L.map Sy.k).Nodup := by
  unfold okY
  rw [Bool.and_eq_true, List.all_eq_true, decide_eq_true_eq]
  rfl
theorem okZ_nl {four : Bool} {s : Sy} (h : okZ four s = true) : okN false s.nl = true := by
  unfold okZ at h
  rw [Bool.and_eq_true] at h
  exact okN_iff.2 ⟨⟨Int.le_refl _, by show (0 : Int) ≤ 4294967295; omega, .inr rfl⟩, h.1⟩
theorem okZ_a {four : Bool} {s : Sy} (h : okZ four s = true) : okA four s.a = true := by
  unfold okZ at h
  rw [Bool.and_eq_true] at h
  exact h.2
theorem sm_ok {four : Bool} {a : At} (h : okA four a = true) : smAt a := by
  unfold okA at h
  simp only [Bool.and_eq_true, decide_eq_true_eq] at h
  refine ⟨by omega, by omega, fun s hs => ?_⟩
  have h1 := List.all_eq_true.1 h.1.2.2 s hs
  unfold okSg at h1
  simp only [Bool.and_eq_true, decide_eq_true_eq] at h1
  omega
theorem sm_zero : smAt atZ := ⟨Nat.zero_le _, Nat.zero_le _, fun s h => by cases h⟩
theorem comeI_congr {sz : Nl → Nat} {f g : At → Nat} : ∀ (n : Nat) (L : List Sy), (∀ s ∈ L, f s.a = g s.a) → comeI sz f n L = comeI sz g n L
  | 0, _, _ => by rw [show comeI sz f 0 = fun _ => [] from rfl, show comeI sz g 0 = fun _ => [] from rfl]
  | n + 1, [], _ => rfl
  | n + 1, s :: r, h => by
    unfold comeI
    rw [h s List.mem_cons_self, comeI_congr n _ fun t ht => h t (List.mem_filter.1 ht).1]
theorem mem_news {was is : List Sy} {s : Sy} (h : s ∈ newsI was is) : s ∈ is := (sortK_perm is).mem_iff.1 (List.mem_filter.1 h).1
/-- behind the updates just what is is said -/
theorem tells {four : Bool} {was is : List Sy} (hw : okY four was = true) (hi : okY four is = true) : foldF (upsI szN (asz four) was is) (lookA was) = lookA is := by
  have e : upsI szN (asz four) was is = upsI szN (fun a => min (asz four a) 2230) was is := by
    unfold upsI
    rw [comeI_congr (f := asz four) (g := fun a => min (asz four a) 2230) _ _ fun s hs => ?_]
    have := asz_le (okZ_a ((okY_all.1 hi).1 s (mem_news hs)))
    show asz four s.a = min (asz four s.a) 2230
    omega
  rw [e]
  refine ups_tell (fun x => by have := szN_5 x; omega) (fun a x => ?_) (okY_all.1 hw).2 (okY_all.1 hi).2
  have := szN_5 x
  show szN x ≤ 4073 - min (asz four a) 2230
  omega
theorem comeI_mem {four : Bool} : ∀ {n : Nat} {L : List Sy} {u : Up}, (∀ s ∈ L, okZ four s = true) → u ∈ comeI szN (asz four) n L → ∃ s ∈ L, ∃ r : List Nl, r ≠ [] ∧ (∀ x ∈ r, okN false x = true) ∧ r.length ≤ L.length ∧ u = mkR s.a (r.take (fitA szN (asz four) s.a r))
  | 0, _, _, _, h => by cases h
  | n + 1, [], _, _, h => by cases h
  | n + 1, s :: r, u, hL, h => by
    unfold comeI at h
    rcases List.mem_append.1 h with h | h
    · obtain ⟨c, hc, rfl⟩ := List.mem_map.1 h
      obtain ⟨k, h1, h2⟩ := chunksI_mem hc
      refine ⟨s, List.mem_cons_self, _, h1, fun x hx => ?_, ?_, by rw [h2]; rfl⟩
      · obtain ⟨t, ht, rfl⟩ := List.mem_map.1 (List.mem_of_mem_drop hx)
        exact okZ_nl (hL t (List.mem_filter.1 ht).1)
      · rw [List.length_drop, List.length_map]
        exact Nat.le_trans (Nat.sub_le _ _) (List.length_filter_le _ _)
    · obtain ⟨t, ht, r', h1, h2, h3, h4⟩ := comeI_mem (fun t ht => hL t (List.mem_filter.1 ht).1) h
      exact ⟨t, (List.mem_filter.1 ht).1, r', h1, h2, Nat.le_trans h3 (List.length_filter_le _ _), h4⟩
/-- each may be put -/
theorem ups_chk {four : Bool} {was is : List Sy} (hw : okY four was = true) (hi : okY four is = true) : ∀ u ∈ upsI szN (asz four) was is, chkU four u = true ∧ smAt u.a ∧ u.routes.length ≤ is.length := by
  intro u hu
  unfold upsI at hu
  rcases List.mem_append.1 hu with h | h
  · obtain ⟨c, hc, rfl⟩ := List.mem_map.1 h
    obtain ⟨k, h1, h2⟩ := chunksI_mem hc
    have hok : ∀ x ∈ (goingI was is).drop k, okN false x = true := fun x hx => by
      obtain ⟨t, ht, rfl⟩ := List.mem_map.1 (List.mem_of_mem_drop hx)
      exact okZ_nl ((okY_all.1 hw).1 t ((sortK_perm was).mem_iff.1 (List.mem_filter.1 ht).1))
    have hf := fitI_le szN ((goingI was is).drop k) 4073 1024
    refine ⟨?_, sm_zero, Nat.zero_le _⟩
    show chkU four (mkG c) = true
    rw [chkU_G (by rw [h2]; exact fun n hn => hok n (List.mem_of_mem_take hn)), Bool.and_eq_true, decide_eq_true_eq, decide_eq_true_eq]
    refine ⟨?_, by rw [h2]; exact hf.2.2⟩
    rw [h2]
    exact Nat.le_trans (List.length_take_le _ _) hf.2.1
  · have hZ : ∀ s ∈ newsI was is, okZ four s = true := fun s hs => (okY_all.1 hi).1 s (mem_news hs)
    obtain ⟨s, hs, r, h1, h2, h3, rfl⟩ := comeI_mem hZ h
    have ha := okZ_a (hZ s hs)
    have hz := asz_le ha
    have hf := fitI_le szN r (4073 - asz four s.a) 1024
    have hp := fitA_pos ha h2 h1
    have hne : r.take (fitA szN (asz four) s.a r) ≠ [] := fun e => by
      have h5 := congrArg List.length e
      rw [List.length_take, List.length_nil] at h5
      have h6 := List.length_pos_iff.2 h1
      omega
    refine ⟨?_, sm_ok ha, ?_⟩
    · show chkU four (upR (r.take (fitA szN (asz four) s.a r)) s.a) = true
      rw [chkU_R (fun n hn => h2 n (List.mem_of_mem_take hn)) ha hne, Bool.and_eq_true, decide_eq_true_eq, decide_eq_true_eq]
      refine ⟨Nat.le_trans (List.length_take_le _ _) hf.2.1, ?_⟩
      have h7 : szs szN (r.take (fitA szN (asz four) s.a r)) ≤ 4073 - asz four s.a := hf.2.2
      omega
    · show (r.take (fitA szN (asz four) s.a r)).length ≤ is.length
      refine Nat.le_trans (List.length_take_le' _ _) (Nat.le_trans h3 ?_)
      unfold newsI
      refine Nat.le_trans (List.length_filter_le _ _) ?_
      rw [sortK_length]
      exact Nat.le_refl _
end Go.Proofs.YtadoflcomienoaaGreat
/- Which lists of what is said, and of updates, are the same, as the reference tells. -/
namespace Go.Proofs.YtadoflcomienoaaGreat
open Go.RowKit

theorem El2.g0 {w0 : World} {b o c p : Nat} {x y : UpV} {W : World} (h : El2 RUp w0 b o x c p y W) : W.cell? ⟨b, o, none⟩ = some (.slice x.g.a x.g.n x.g.c) ∧ W.cell? ⟨c, p, none⟩ = some (.slice y.g.a y.g.n y.g.c) := ⟨h.l.at' 0 (by decide), h.r.at' 0 (by decide)⟩
set_option maxRecDepth 100000 in
set_option maxHeartbeats 4000000 in
theorem rsameY_any {w : World} {oa ob : Option Addr} {n c m d : Nat} {L M : List SyV} (h : SlOk RSy SyOk w ⟨oa, n, c, L⟩) (k : SlOk RSy SyOk w ⟨ob, m, d, M⟩) : Calls Tryz.prog 20 #[.slice oa n c, .slice ob m d] w fun e w' => e = .returned (.bool (decide (L.map SyV.sy = M.map SyV.sy))) ∧ Below w.heap.size w w' := by
  by_cases hnm : n = m
  · subst hnm
    have HL := Lib.hid (show n = L.length from h.sl.len)
    have HM := Lib.hid (show n = M.length from k.sl.len)
    have hmax : n ≤ maxLen := h.sl.max
    have F := Lib.hid (And.intro h k)
    obtain ⟨v, hv⟩ : ∃ v, decide (L.map SyV.sy = M.map SyV.sy) = v := ⟨_, rfl⟩
    rw [hv]
    have HV := Lib.hid hv
    have e0 : ((n : Int) == (n : Int)) = true := by simp
    clear h k hv
    go_enter Tryz.func20, Tryz.ntmps20
    go_wp2_with fail
    go_loopw [5] (fun iv wr => ∃ i : Nat, i ≤ n ∧ iv = .int .i64 i ∧ (∀ j, j < i → (L.map SyV.sy).getD j default = (M.map SyV.sy).getD j default) ∧ Below w.heap.size w wr) (fun iv _ => n - (intOf iv).toNat)
    case atStart => exact ⟨0, Nat.zero_le _, rfl, fun j hj => absurd hj (Nat.not_lt_zero _), Below.refl _ _⟩
    case round =>
      obtain ⟨i, hi, rfl, hall, hb⟩ := hrel
      obtain ⟨w2, rfl⟩ : ∃ w2 : World, w2 = wr := ⟨_, rfl⟩
      by_cases hlt : i < n
      · have hil : ((i : Int) < (n : Int)) = True := by simp; omega
        have hi0 : ((0 : Int) ≤ (i : Int)) = True := by simp
        have hw3 := wrapS hlt hmax
        have hk1 := F.out.1.keepY hb
        have hk2 := F.out.2.keepY hb
        obtain ⟨b0, o0, ea, hbb, hat⟩ := hk1.sl.at hlt
        obtain ⟨b1, o1, ea1, hbb1, hat1⟩ := hk2.sl.at hlt
        dsimp only at ea ea1
        subst ea
        subst ea1
        have m1 := hk1.all _ (getD_mem (i := i) (by rw [← HL.out]; exact hlt))
        have m2 := hk2.all _ (getD_mem (i := i) (by rw [← HM.out]; exact hlt))
        have hx2 : (L.map SyV.sy).getD i default = SyV.sy (L.getD i default) := by simp [List.getD_eq_getElem?_getD, List.getElem?_map, List.getElem?_eq_getElem (show i < L.length by rw [← HL.out]; exact hlt)]
        have hy2 : (M.map SyV.sy).getD i default = SyV.sy (M.getD i default) := by simp [List.getD_eq_getElem?_getD, List.getElem?_map, List.getElem?_eq_getElem (show i < M.length by rw [← HM.out]; exact hlt)]
        dsimp only at hat hat1 m1 m2
        generalize L.getD i default = x at *
        generalize M.getD i default = y at *
        have hd := (Below.refl w2.heap.size w2).drew
        have K := Lib.hid (And.intro (show El2 RSy w2 b0 (o0 + i * 8) x b1 (o1 + i * 8) y w2.drew from ⟨(ElS.begin hat hbb).keep hd, (ElS.begin hat1 hbb1).keep hd⟩) (And.intro (bcall hb (Nat.le_refl _) hd) (And.intro hall (And.intro hx2 hy2))))
        have KO := Lib.hid (And.intro (m1.keep hd) (m2.keep hd))
        clear hb hat hat1 hall hd hbb hbb1 m1 m2 hk1 hk2 hx2 hy2 hi
        have K0 := Lib.hid K.out.2.2.2
        have K1 := Lib.hid K.out.2.2.1
        by_cases hp : x.k = y.k
        · have e1 : (x.k.1 : Int) = (y.k.1 : Int) := by rw [hp]
          have e2 : x.k.2 = y.k.2 := by rw [hp]
          have HP := Lib.hid hp
          clear hp
          go_wp2_with fail
          refine wp_region_heldP (El2 RSy w2 b0 (o0 + i * 8) x b1 (o1 + i * 8) y) (by kernel_rfl) ?_
          generalize w2.drew = V at *
          have HC := Lib.hid (rasame_any KO.out.1.a KO.out.2.a)
          obtain ⟨bo, hbo⟩ : ∃ b, decide (x.a.at = y.a.at) = b := ⟨_, rfl⟩
          rw [hbo] at HC
          have HBO := Lib.hid hbo
          unfold AtV.v at HC
          clear hbo
          refine held_reads [0, 1, 2, 3, 4, 5, 6, 7, 8, 9, 10, 11, 12, 13, 14, 15, 16, 17, 18, 19, 20, 21] (g := 3) rfl (by kernel_rfl) K.out.1 (fun _ _ d _ _ h => by cases d <;> exact h) ?_
          simp only [pick, List.getD_cons_zero, List.getD_cons_succ]
          ((with_reducible refine wpRead_step (fun K hK => ?_)); go_simp; first | ((with_reducible refine hK _ ?_); clear hK K) | (apply Exists.intro; (with_reducible refine ⟨fun w' hw' => ?_, hK _ ?_⟩); (first | exact rfl | exact ⟨rfl, rfl⟩); clear hK K))
          ((with_reducible refine wpRead_step (fun K hK => ?_)); go_simp; first | ((with_reducible refine hK _ ?_); clear hK K) | (apply Exists.intro; (with_reducible refine ⟨fun w' hw' => ?_, hK _ ?_⟩); (first | exact rfl | exact ⟨rfl, rfl⟩); clear hK K))
          ((with_reducible refine wpRead_step (fun K hK => ?_)); go_simp; first | ((with_reducible refine hK _ ?_); clear hK K) | (apply Exists.intro; (with_reducible refine ⟨fun w' hw' => ?_, hK _ ?_⟩); (first | exact rfl | exact ⟨rfl, rfl⟩); clear hK K))
          ((with_reducible refine wpRead_step (fun K hK => ?_)); go_simp; first | ((with_reducible refine hK _ ?_); clear hK K) | (apply Exists.intro; (with_reducible refine ⟨fun w' hw' => ?_, hK _ ?_⟩); (first | exact rfl | exact ⟨rfl, rfl⟩); clear hK K))
          with_reducible refine wpRead_yes ?_ ?_
          rotate_left
          rfl
          intro K hK
          refine read_load 58 _ rfl b0 (o0 + i * 8) #[.int .u32 (x.k.1 : Int), .int .i64 x.k.2] rfl (fun w' hw' => hw'.l.at'.yP) Tryz.underlying58 rfl (by kernel_rfl) (hK _ ?_)
          clear hK K
          ((with_reducible refine wpRead_step (fun K hK => ?_)); go_simp; first | ((with_reducible refine hK _ ?_); clear hK K) | (apply Exists.intro; (with_reducible refine ⟨fun w' hw' => ?_, hK _ ?_⟩); (first | exact rfl | exact ⟨rfl, rfl⟩); clear hK K))
          ((with_reducible refine wpRead_step (fun K hK => ?_)); go_simp; first | ((with_reducible refine hK _ ?_); clear hK K) | (apply Exists.intro; (with_reducible refine ⟨fun w' hw' => ?_, hK _ ?_⟩); (first | exact rfl | exact ⟨rfl, rfl⟩); clear hK K))
          ((with_reducible refine wpRead_step (fun K hK => ?_)); go_simp; first | ((with_reducible refine hK _ ?_); clear hK K) | (apply Exists.intro; (with_reducible refine ⟨fun w' hw' => ?_, hK _ ?_⟩); (first | exact rfl | exact ⟨rfl, rfl⟩); clear hK K))
          ((with_reducible refine wpRead_step (fun K hK => ?_)); go_simp; first | ((with_reducible refine hK _ ?_); clear hK K) | (apply Exists.intro; (with_reducible refine ⟨fun w' hw' => ?_, hK _ ?_⟩); (first | exact rfl | exact ⟨rfl, rfl⟩); clear hK K))
          with_reducible refine wpRead_yes ?_ ?_
          rotate_left
          rfl
          intro K hK
          refine read_load 58 _ rfl b1 (o1 + i * 8) #[.int .u32 (y.k.1 : Int), .int .i64 y.k.2] rfl (fun w' hw' => hw'.r.at'.yP) Tryz.underlying58 rfl (by kernel_rfl) (hK _ ?_)
          clear hK K
          ((with_reducible refine wpRead_step (fun K hK => ?_)); go_simp; first | ((with_reducible refine hK _ ?_); clear hK K) | (apply Exists.intro; (with_reducible refine ⟨fun w' hw' => ?_, hK _ ?_⟩); (first | exact rfl | exact ⟨rfl, rfl⟩); clear hK K))
          ((with_reducible refine wpRead_step (fun K hK => ?_)); go_simp; first | ((with_reducible refine hK _ ?_); clear hK K) | (apply Exists.intro; (with_reducible refine ⟨fun w' hw' => ?_, hK _ ?_⟩); (first | exact rfl | exact ⟨rfl, rfl⟩); clear hK K))
          ((with_reducible refine wpRead_step (fun K hK => ?_)); go_simp; first | ((with_reducible refine hK _ ?_); clear hK K) | (apply Exists.intro; (with_reducible refine ⟨fun w' hw' => ?_, hK _ ?_⟩); (first | exact rfl | exact ⟨rfl, rfl⟩); clear hK K))
          ((with_reducible refine wpRead_step (fun K hK => ?_)); go_simp; first | ((with_reducible refine hK _ ?_); clear hK K) | (apply Exists.intro; (with_reducible refine ⟨fun w' hw' => ?_, hK _ ?_⟩); (first | exact rfl | exact ⟨rfl, rfl⟩); clear hK K))
          ((with_reducible refine wpRead_step (fun K hK => ?_)); go_simp; first | ((with_reducible refine hK _ ?_); clear hK K) | (apply Exists.intro; (with_reducible refine ⟨fun w' hw' => ?_, hK _ ?_⟩); (first | exact rfl | exact ⟨rfl, rfl⟩); clear hK K))
          ((with_reducible refine wpRead_step (fun K hK => ?_)); go_simp; first | ((with_reducible refine hK _ ?_); clear hK K) | (apply Exists.intro; (with_reducible refine ⟨fun w' hw' => ?_, hK _ ?_⟩); (first | exact rfl | exact ⟨rfl, rfl⟩); clear hK K))
          with_reducible refine wpRead_yes ?_ ?_
          rotate_left
          rfl
          intro K hK
          refine read_load 40 _ rfl b0 ((o0 + i * 8) + 2) #[.int .i64 x.a.o, .slice x.a.p.a x.a.p.n x.a.p.c, .int .u32 x.a.nx, .int .i64 x.a.md, .int .i64 x.a.pf, .slice x.a.c.a x.a.c.n x.a.c.c] rfl (fun w' hw' => hw'.l.at'.yA) Tryz.underlying40 rfl (by kernel_rfl) (hK _ ?_)
          clear hK K
          ((with_reducible refine wpRead_step (fun K hK => ?_)); go_simp; first | ((with_reducible refine hK _ ?_); clear hK K) | (apply Exists.intro; (with_reducible refine ⟨fun w' hw' => ?_, hK _ ?_⟩); (first | exact rfl | exact ⟨rfl, rfl⟩); clear hK K))
          ((with_reducible refine wpRead_step (fun K hK => ?_)); go_simp; first | ((with_reducible refine hK _ ?_); clear hK K) | (apply Exists.intro; (with_reducible refine ⟨fun w' hw' => ?_, hK _ ?_⟩); (first | exact rfl | exact ⟨rfl, rfl⟩); clear hK K))
          ((with_reducible refine wpRead_step (fun K hK => ?_)); go_simp; first | ((with_reducible refine hK _ ?_); clear hK K) | (apply Exists.intro; (with_reducible refine ⟨fun w' hw' => ?_, hK _ ?_⟩); (first | exact rfl | exact ⟨rfl, rfl⟩); clear hK K))
          ((with_reducible refine wpRead_step (fun K hK => ?_)); go_simp; first | ((with_reducible refine hK _ ?_); clear hK K) | (apply Exists.intro; (with_reducible refine ⟨fun w' hw' => ?_, hK _ ?_⟩); (first | exact rfl | exact ⟨rfl, rfl⟩); clear hK K))
          with_reducible refine wpRead_yes ?_ ?_
          rotate_left
          rfl
          intro K hK
          refine read_load 40 _ rfl b1 ((o1 + i * 8) + 2) #[.int .i64 y.a.o, .slice y.a.p.a y.a.p.n y.a.p.c, .int .u32 y.a.nx, .int .i64 y.a.md, .int .i64 y.a.pf, .slice y.a.c.a y.a.c.n y.a.c.c] rfl (fun w' hw' => hw'.r.at'.yA) Tryz.underlying40 rfl (by kernel_rfl) (hK _ ?_)
          clear hK K
          with_reducible refine wpRead_nil ?_
          refine held_one 22 (by kernel_rfl) ?_
          simp only [pick, List.getD_cons_zero, List.getD_cons_succ]
          go_wp2_with fail
          refine (HC.out).mono ?_
          rintro e V2 ⟨rfl, hb⟩
          have K3 := Lib.hid (And.intro (K.out.1.keep hb) (bcall K.out.2.1 (Nat.le_refl _) hb))
          clear hb HC K KO
          go_wp2_with fail
          refine ⟨K3.out.1, ?_⟩
          cases bo
          · refine held_reads [23, 24] (g := 0) rfl (by kernel_rfl) K3.out.1 (fun _ _ d _ _ h => by cases d <;> exact h) ?_
            simp only [pick, List.getD_cons_zero, List.getD_cons_succ]
            ((with_reducible refine wpRead_step (fun K hK => ?_)); go_simp; first | ((with_reducible refine hK _ ?_); clear hK K) | (apply Exists.intro; (with_reducible refine ⟨fun w' hw' => ?_, hK _ ?_⟩); (first | exact rfl | exact ⟨rfl, rfl⟩); clear hK K))
            ((with_reducible refine wpRead_step (fun K hK => ?_)); go_simp; first | ((with_reducible refine hK _ ?_); clear hK K) | (apply Exists.intro; (with_reducible refine ⟨fun w' hw' => ?_, hK _ ?_⟩); (first | exact rfl | exact ⟨rfl, rfl⟩); clear hK K))
            with_reducible refine wpRead_nil ?_
            refine wpAnyH_done (by kernel_rfl) ?_ _
            go_wp2_with fail
            go_ret
            exact ⟨ret_bool (by
              rw [← HV.out]
              refine (decide_eq_false fun h => (of_decide_eq_false HBO.out) ?_).symm
              have h4 := K0.out.1
              have h5 := K0.out.2
              rw [h, h5] at h4
              exact congrArg Sy.a h4.symm), K3.out.2⟩
          · refine held_reads [23, 24] (g := 0) rfl (by kernel_rfl) K3.out.1 (fun _ _ d _ _ h => by cases d <;> exact h) ?_
            simp only [pick, List.getD_cons_zero, List.getD_cons_succ]
            ((with_reducible refine wpRead_step (fun K hK => ?_)); go_simp; first | ((with_reducible refine hK _ ?_); clear hK K) | (apply Exists.intro; (with_reducible refine ⟨fun w' hw' => ?_, hK _ ?_⟩); (first | exact rfl | exact ⟨rfl, rfl⟩); clear hK K))
            ((with_reducible refine wpRead_step (fun K hK => ?_)); go_simp; first | ((with_reducible refine hK _ ?_); clear hK K) | (apply Exists.intro; (with_reducible refine ⟨fun w' hw' => ?_, hK _ ?_⟩); (first | exact rfl | exact ⟨rfl, rfl⟩); clear hK K))
            with_reducible refine wpRead_nil ?_
            refine wpAnyH_done (by kernel_rfl) ?_ _
            go_wp2_with fail
            exact ⟨⟨i + 1, hlt, by first | rw [hw3] | rw [Int.natCast_succ], fun j hj => (Nat.lt_succ_iff_lt_or_eq.1 hj).elim (K1.out j) (fun e => by rw [e, K0.out.1, K0.out.2]; exact by unfold SyV.sy; rw [HP.out, of_decide_eq_true HBO.out]), K3.out.2⟩, by first | (rw [hw3]; exact mSucc hlt) | (rw [← Int.natCast_succ]; exact mSucc hlt)⟩
        · have HP := Lib.hid hp
          rcases pk_ne hp with e1 | ⟨e1, e2⟩
          all_goals
            clear hp
            go_wp2_with fail
            refine wp_region_heldP (El2 RSy w2 b0 (o0 + i * 8) x b1 (o1 + i * 8) y) (by kernel_rfl) ?_
            generalize w2.drew = V at *
            refine held_reads [0, 1, 2, 3, 4, 5, 6, 7, 8, 9, 10, 11, 12, 13, 14, 15, 16, 17, 18, 19, 20, 21, 22, 23, 24] (g := 0) rfl (by kernel_rfl) K.out.1 (fun _ _ d _ _ h => by cases d <;> exact h) ?_
            simp only [pick, List.getD_cons_zero, List.getD_cons_succ]
            ((with_reducible refine wpRead_step (fun K hK => ?_)); go_simp; first | ((with_reducible refine hK _ ?_); clear hK K) | (apply Exists.intro; (with_reducible refine ⟨fun w' hw' => ?_, hK _ ?_⟩); (first | exact rfl | exact ⟨rfl, rfl⟩); clear hK K))
            ((with_reducible refine wpRead_step (fun K hK => ?_)); go_simp; first | ((with_reducible refine hK _ ?_); clear hK K) | (apply Exists.intro; (with_reducible refine ⟨fun w' hw' => ?_, hK _ ?_⟩); (first | exact rfl | exact ⟨rfl, rfl⟩); clear hK K))
            ((with_reducible refine wpRead_step (fun K hK => ?_)); go_simp; first | ((with_reducible refine hK _ ?_); clear hK K) | (apply Exists.intro; (with_reducible refine ⟨fun w' hw' => ?_, hK _ ?_⟩); (first | exact rfl | exact ⟨rfl, rfl⟩); clear hK K))
            ((with_reducible refine wpRead_step (fun K hK => ?_)); go_simp; first | ((with_reducible refine hK _ ?_); clear hK K) | (apply Exists.intro; (with_reducible refine ⟨fun w' hw' => ?_, hK _ ?_⟩); (first | exact rfl | exact ⟨rfl, rfl⟩); clear hK K))
            with_reducible refine wpRead_yes ?_ ?_
            rotate_left
            rfl
            intro K hK
            refine read_load 58 _ rfl b0 (o0 + i * 8) #[.int .u32 (x.k.1 : Int), .int .i64 x.k.2] rfl (fun w' hw' => hw'.l.at'.yP) Tryz.underlying58 rfl (by kernel_rfl) (hK _ ?_)
            clear hK K
            ((with_reducible refine wpRead_step (fun K hK => ?_)); go_simp; first | ((with_reducible refine hK _ ?_); clear hK K) | (apply Exists.intro; (with_reducible refine ⟨fun w' hw' => ?_, hK _ ?_⟩); (first | exact rfl | exact ⟨rfl, rfl⟩); clear hK K))
            ((with_reducible refine wpRead_step (fun K hK => ?_)); go_simp; first | ((with_reducible refine hK _ ?_); clear hK K) | (apply Exists.intro; (with_reducible refine ⟨fun w' hw' => ?_, hK _ ?_⟩); (first | exact rfl | exact ⟨rfl, rfl⟩); clear hK K))
            ((with_reducible refine wpRead_step (fun K hK => ?_)); go_simp; first | ((with_reducible refine hK _ ?_); clear hK K) | (apply Exists.intro; (with_reducible refine ⟨fun w' hw' => ?_, hK _ ?_⟩); (first | exact rfl | exact ⟨rfl, rfl⟩); clear hK K))
            ((with_reducible refine wpRead_step (fun K hK => ?_)); go_simp; first | ((with_reducible refine hK _ ?_); clear hK K) | (apply Exists.intro; (with_reducible refine ⟨fun w' hw' => ?_, hK _ ?_⟩); (first | exact rfl | exact ⟨rfl, rfl⟩); clear hK K))
            with_reducible refine wpRead_yes ?_ ?_
            rotate_left
            rfl
            intro K hK
            refine read_load 58 _ rfl b1 (o1 + i * 8) #[.int .u32 (y.k.1 : Int), .int .i64 y.k.2] rfl (fun w' hw' => hw'.r.at'.yP) Tryz.underlying58 rfl (by kernel_rfl) (hK _ ?_)
            clear hK K
            ((with_reducible refine wpRead_step (fun K hK => ?_)); go_simp; first | ((with_reducible refine hK _ ?_); clear hK K) | (apply Exists.intro; (with_reducible refine ⟨fun w' hw' => ?_, hK _ ?_⟩); (first | exact rfl | exact ⟨rfl, rfl⟩); clear hK K))
            ((with_reducible refine wpRead_step (fun K hK => ?_)); go_simp; first | ((with_reducible refine hK _ ?_); clear hK K) | (apply Exists.intro; (with_reducible refine ⟨fun w' hw' => ?_, hK _ ?_⟩); (first | exact rfl | exact ⟨rfl, rfl⟩); clear hK K))
            ((with_reducible refine wpRead_step (fun K hK => ?_)); go_simp; first | ((with_reducible refine hK _ ?_); clear hK K) | (apply Exists.intro; (with_reducible refine ⟨fun w' hw' => ?_, hK _ ?_⟩); (first | exact rfl | exact ⟨rfl, rfl⟩); clear hK K))
            ((with_reducible refine wpRead_step (fun K hK => ?_)); go_simp; first | ((with_reducible refine hK _ ?_); clear hK K) | (apply Exists.intro; (with_reducible refine ⟨fun w' hw' => ?_, hK _ ?_⟩); (first | exact rfl | exact ⟨rfl, rfl⟩); clear hK K))
            ((with_reducible refine wpRead_step (fun K hK => ?_)); go_simp; first | ((with_reducible refine hK _ ?_); clear hK K) | (apply Exists.intro; (with_reducible refine ⟨fun w' hw' => ?_, hK _ ?_⟩); (first | exact rfl | exact ⟨rfl, rfl⟩); clear hK K))
            ((with_reducible refine wpRead_step (fun K hK => ?_)); go_simp; first | ((with_reducible refine hK _ ?_); clear hK K) | (apply Exists.intro; (with_reducible refine ⟨fun w' hw' => ?_, hK _ ?_⟩); (first | exact rfl | exact ⟨rfl, rfl⟩); clear hK K))
            ((with_reducible refine wpRead_step (fun K hK => ?_)); go_simp; first | ((with_reducible refine hK _ ?_); clear hK K) | (apply Exists.intro; (with_reducible refine ⟨fun w' hw' => ?_, hK _ ?_⟩); (first | exact rfl | exact ⟨rfl, rfl⟩); clear hK K))
            ((with_reducible refine wpRead_step (fun K hK => ?_)); go_simp; first | ((with_reducible refine hK _ ?_); clear hK K) | (apply Exists.intro; (with_reducible refine ⟨fun w' hw' => ?_, hK _ ?_⟩); (first | exact rfl | exact ⟨rfl, rfl⟩); clear hK K))
            ((with_reducible refine wpRead_step (fun K hK => ?_)); go_simp; first | ((with_reducible refine hK _ ?_); clear hK K) | (apply Exists.intro; (with_reducible refine ⟨fun w' hw' => ?_, hK _ ?_⟩); (first | exact rfl | exact ⟨rfl, rfl⟩); clear hK K))
            ((with_reducible refine wpRead_step (fun K hK => ?_)); go_simp; first | ((with_reducible refine hK _ ?_); clear hK K) | (apply Exists.intro; (with_reducible refine ⟨fun w' hw' => ?_, hK _ ?_⟩); (first | exact rfl | exact ⟨rfl, rfl⟩); clear hK K))
            ((with_reducible refine wpRead_step (fun K hK => ?_)); go_simp; first | ((with_reducible refine hK _ ?_); clear hK K) | (apply Exists.intro; (with_reducible refine ⟨fun w' hw' => ?_, hK _ ?_⟩); (first | exact rfl | exact ⟨rfl, rfl⟩); clear hK K))
            ((with_reducible refine wpRead_step (fun K hK => ?_)); go_simp; first | ((with_reducible refine hK _ ?_); clear hK K) | (apply Exists.intro; (with_reducible refine ⟨fun w' hw' => ?_, hK _ ?_⟩); (first | exact rfl | exact ⟨rfl, rfl⟩); clear hK K))
            ((with_reducible refine wpRead_step (fun K hK => ?_)); go_simp; first | ((with_reducible refine hK _ ?_); clear hK K) | (apply Exists.intro; (with_reducible refine ⟨fun w' hw' => ?_, hK _ ?_⟩); (first | exact rfl | exact ⟨rfl, rfl⟩); clear hK K))
            ((with_reducible refine wpRead_step (fun K hK => ?_)); go_simp; first | ((with_reducible refine hK _ ?_); clear hK K) | (apply Exists.intro; (with_reducible refine ⟨fun w' hw' => ?_, hK _ ?_⟩); (first | exact rfl | exact ⟨rfl, rfl⟩); clear hK K))
            ((with_reducible refine wpRead_step (fun K hK => ?_)); go_simp; first | ((with_reducible refine hK _ ?_); clear hK K) | (apply Exists.intro; (with_reducible refine ⟨fun w' hw' => ?_, hK _ ?_⟩); (first | exact rfl | exact ⟨rfl, rfl⟩); clear hK K))
            with_reducible refine wpRead_nil ?_
            refine wpAnyH_done (by kernel_rfl) ?_ _
            go_wp2_with fail
            go_ret
            exact ⟨ret_bool (by
              rw [← HV.out]
              refine (decide_eq_false fun h => HP.out ?_).symm
              have h4 := K0.out.1
              have h5 := K0.out.2
              rw [h, h5] at h4
              exact congrArg Sy.k h4.symm), K.out.2.1⟩
      · obtain rfl : n = i := by omega
        have hil : ((n : Int) < (n : Int)) = False := by simp
        have HB := Lib.hid (And.intro hb hall)
        clear hb hall
        go_wp2_with fail
        go_ret
        exact ⟨ret_bool (by rw [← HV.out]; exact (decide_eq_true (getD_ext (by rw [List.length_map, List.length_map]; exact HL.out.symm.trans HM.out) fun j hj => HB.out.2 j (by rw [List.length_map] at hj; rw [HL.out]; exact hj))).symm), HB.out.1⟩
  · have e1 : ((n : Int) == (m : Int)) = false := by simpa using fun e : (n : Int) = m => hnm (by omega)
    have HV := Lib.hid (show decide (L.map SyV.sy = M.map SyV.sy) = false from decide_eq_false fun e => hnm (by
      have h1 := congrArg List.length e
      rw [List.length_map, List.length_map] at h1
      have h2 : n = L.length := h.sl.len
      have h3 : m = M.length := k.sl.len
      omega))
    generalize decide (L.map SyV.sy = M.map SyV.sy) = v at *
    clear h k hnm
    go_enter Tryz.func20, Tryz.ntmps20
    go_wp2_with fail
    go_ret
    exact ⟨ret_bool HV.out.symm, Below.refl _ _⟩
set_option maxRecDepth 100000 in
set_option maxHeartbeats 4000000 in
theorem rsameU_any {w : World} {oa ob : Option Addr} {n c m d : Nat} {L M : List UpV} (h : SlOk RUp UpOk w ⟨oa, n, c, L⟩) (k : SlOk RUp UpOk w ⟨ob, m, d, M⟩) : Calls Tryz.prog 15 #[.slice oa n c, .slice ob m d] w fun e w' => e = .returned (.bool (decide (L.map UpV.up = M.map UpV.up))) ∧ Below w.heap.size w w' := by
  by_cases hnm : n = m
  · subst hnm
    have HL := Lib.hid (show n = L.length from h.sl.len)
    have HM := Lib.hid (show n = M.length from k.sl.len)
    have hmax : n ≤ maxLen := h.sl.max
    have F := Lib.hid (And.intro h k)
    obtain ⟨v, hv⟩ : ∃ v, decide (L.map UpV.up = M.map UpV.up) = v := ⟨_, rfl⟩
    rw [hv]
    have HV := Lib.hid hv
    have e0 : ((n : Int) == (n : Int)) = true := by simp
    clear h k hv
    go_enter Tryz.func15, Tryz.ntmps15
    go_wp2_with fail
    go_loopw [5] (fun iv wr => ∃ i : Nat, i ≤ n ∧ iv = .int .i64 i ∧ (∀ j, j < i → (L.map UpV.up).getD j default = (M.map UpV.up).getD j default) ∧ Below w.heap.size w wr) (fun iv _ => n - (intOf iv).toNat)
    case atStart => exact ⟨0, Nat.zero_le _, rfl, fun j hj => absurd hj (Nat.not_lt_zero _), Below.refl _ _⟩
    case round =>
      obtain ⟨i, hi, rfl, hall, hb⟩ := hrel
      obtain ⟨w2, rfl⟩ : ∃ w2 : World, w2 = wr := ⟨_, rfl⟩
      by_cases hlt : i < n
      · have hil : ((i : Int) < (n : Int)) = True := by simp; omega
        have hi0 : ((0 : Int) ≤ (i : Int)) = True := by simp
        have hw3 := wrapS hlt hmax
        have hk1 := F.out.1.keepU hb
        have hk2 := F.out.2.keepU hb
        obtain ⟨b0, o0, ea, hbb, hat⟩ := hk1.sl.at hlt
        obtain ⟨b1, o1, ea1, hbb1, hat1⟩ := hk2.sl.at hlt
        dsimp only at ea ea1
        subst ea
        subst ea1
        have m1 := hk1.all _ (getD_mem (i := i) (by rw [← HL.out]; exact hlt))
        have m2 := hk2.all _ (getD_mem (i := i) (by rw [← HM.out]; exact hlt))
        have hx2 : (L.map UpV.up).getD i default = UpV.up (L.getD i default) := by simp [List.getD_eq_getElem?_getD, List.getElem?_map, List.getElem?_eq_getElem (show i < L.length by rw [← HL.out]; exact hlt)]
        have hy2 : (M.map UpV.up).getD i default = UpV.up (M.getD i default) := by simp [List.getD_eq_getElem?_getD, List.getElem?_map, List.getElem?_eq_getElem (show i < M.length by rw [← HM.out]; exact hlt)]
        dsimp only at hat hat1 m1 m2
        generalize L.getD i default = x at *
        generalize M.getD i default = y at *
        have hd := (Below.refl w2.heap.size w2).drew
        have K := Lib.hid (And.intro (show El2 RUp w2 b0 (o0 + i * 9) x b1 (o1 + i * 9) y w2.drew from ⟨(ElS.begin hat hbb).keep hd, (ElS.begin hat1 hbb1).keep hd⟩) (And.intro (bcall hb (Nat.le_refl _) hd) (And.intro hall (And.intro hx2 hy2))))
        have KO := Lib.hid (And.intro (m1.keep hd) (m2.keep hd))
        clear hb hat hat1 hall hd hbb hbb1 m1 m2 hk1 hk2 hx2 hy2 hi
        have K0 := Lib.hid K.out.2.2.2
        have K1 := Lib.hid K.out.2.2.1
        have HC := Lib.hid (rusame_any KO.out.1 KO.out.2)
        obtain ⟨bo, hbo⟩ : ∃ b, decide (x.up = y.up) = b := ⟨_, rfl⟩
        rw [hbo] at HC
        have HBO := Lib.hid hbo
        unfold UpV.v at HC
        clear hbo
        go_wp2_with fail
        refine wp_region_heldP (El2 RUp w2 b0 (o0 + i * 9) x b1 (o1 + i * 9) y) (by kernel_rfl) ?_
        generalize w2.drew = V at *
        refine held_reads [0, 1, 2, 3, 4, 5, 6, 7] (g := 16) rfl (by kernel_rfl) K.out.1 (fun _ _ d _ _ h => by cases d <;> exact h) ?_
        simp only [pick, List.getD_cons_zero, List.getD_cons_succ]
        ((with_reducible refine wpRead_step (fun K hK => ?_)); go_simp; first | ((with_reducible refine hK _ ?_); clear hK K) | (apply Exists.intro; (with_reducible refine ⟨fun w' hw' => ?_, hK _ ?_⟩); (first | exact rfl | exact ⟨rfl, rfl⟩); clear hK K))
        ((with_reducible refine wpRead_step (fun K hK => ?_)); go_simp; first | ((with_reducible refine hK _ ?_); clear hK K) | (apply Exists.intro; (with_reducible refine ⟨fun w' hw' => ?_, hK _ ?_⟩); (first | exact rfl | exact ⟨rfl, rfl⟩); clear hK K))
        ((with_reducible refine wpRead_step (fun K hK => ?_)); go_simp; first | ((with_reducible refine hK _ ?_); clear hK K) | (apply Exists.intro; (with_reducible refine ⟨fun w' hw' => ?_, hK _ ?_⟩); (first | exact rfl | exact ⟨rfl, rfl⟩); clear hK K))
        with_reducible refine wpRead_yes ?_ ?_
        rotate_left
        rfl
        intro K hK
        refine read_load 42 _ rfl b0 (o0 + i * 9) #[.slice x.g.a x.g.n x.g.c, .slice x.r.a x.r.n x.r.c, .int .i64 x.a.o, .slice x.a.p.a x.a.p.n x.a.p.c, .int .u32 x.a.nx, .int .i64 x.a.md, .int .i64 x.a.pf, .slice x.a.c.a x.a.c.n x.a.c.c, .bool x.soft] rfl (fun w' hw' => hw'.l.at'.range) Tryz.underlying42 rfl (by kernel_rfl) (hK _ ?_)
        clear hK K
        ((with_reducible refine wpRead_step (fun K hK => ?_)); go_simp; first | ((with_reducible refine hK _ ?_); clear hK K) | (apply Exists.intro; (with_reducible refine ⟨fun w' hw' => ?_, hK _ ?_⟩); (first | exact rfl | exact ⟨rfl, rfl⟩); clear hK K))
        ((with_reducible refine wpRead_step (fun K hK => ?_)); go_simp; first | ((with_reducible refine hK _ ?_); clear hK K) | (apply Exists.intro; (with_reducible refine ⟨fun w' hw' => ?_, hK _ ?_⟩); (first | exact rfl | exact ⟨rfl, rfl⟩); clear hK K))
        ((with_reducible refine wpRead_step (fun K hK => ?_)); go_simp; first | ((with_reducible refine hK _ ?_); clear hK K) | (apply Exists.intro; (with_reducible refine ⟨fun w' hw' => ?_, hK _ ?_⟩); (first | exact rfl | exact ⟨rfl, rfl⟩); clear hK K))
        with_reducible refine wpRead_yes ?_ ?_
        rotate_left
        rfl
        intro K hK
        refine read_load 42 _ rfl b1 (o1 + i * 9) #[.slice y.g.a y.g.n y.g.c, .slice y.r.a y.r.n y.r.c, .int .i64 y.a.o, .slice y.a.p.a y.a.p.n y.a.p.c, .int .u32 y.a.nx, .int .i64 y.a.md, .int .i64 y.a.pf, .slice y.a.c.a y.a.c.n y.a.c.c, .bool y.soft] rfl (fun w' hw' => hw'.r.at'.range) Tryz.underlying42 rfl (by kernel_rfl) (hK _ ?_)
        clear hK K
        with_reducible refine wpRead_nil ?_
        refine held_one 8 (by kernel_rfl) ?_
        simp only [pick, List.getD_cons_zero, List.getD_cons_succ]
        go_wp2_with fail
        refine (HC.out).mono ?_
        rintro e V2 ⟨rfl, hb⟩
        have K3 := Lib.hid (And.intro (K.out.1.keep hb) (And.intro (bcall K.out.2.1 (Nat.le_refl _) hb) (And.intro (KO.out.1.keep hb) (KO.out.2.keep hb))))
        clear hb HC K KO
        go_wp2_with fail
        refine ⟨K3.out.1, ?_⟩
        cases bo
        · refine held_reads [9, 10, 11, 12, 13, 14, 15, 16, 17, 18, 19, 20, 21, 22, 23] (g := 0) rfl (by kernel_rfl) K3.out.1 (fun _ _ d _ _ h => by cases d <;> exact h) ?_
          simp only [pick, List.getD_cons_zero, List.getD_cons_succ]
          ((with_reducible refine wpRead_step (fun K hK => ?_)); go_simp; first | ((with_reducible refine hK _ ?_); clear hK K) | (apply Exists.intro; (with_reducible refine ⟨fun w' hw' => ?_, hK _ ?_⟩); (first | exact rfl | exact ⟨rfl, rfl⟩); clear hK K))
          ((with_reducible refine wpRead_step (fun K hK => ?_)); go_simp; first | ((with_reducible refine hK _ ?_); clear hK K) | (apply Exists.intro; (with_reducible refine ⟨fun w' hw' => ?_, hK _ ?_⟩); (first | exact rfl | exact ⟨rfl, rfl⟩); clear hK K))
          ((with_reducible refine wpRead_step (fun K hK => ?_)); go_simp; first | ((with_reducible refine hK _ ?_); clear hK K) | (apply Exists.intro; (with_reducible refine ⟨fun w' hw' => ?_, hK _ ?_⟩); (first | exact rfl | exact ⟨rfl, rfl⟩); clear hK K))
          ((with_reducible refine wpRead_step (fun K hK => ?_)); go_simp; first | ((with_reducible refine hK _ ?_); clear hK K) | (apply Exists.intro; (with_reducible refine ⟨fun w' hw' => ?_, hK _ ?_⟩); (first | exact rfl | exact ⟨rfl, rfl⟩); clear hK K))
          ((with_reducible refine wpRead_step (fun K hK => ?_)); go_simp; first | ((with_reducible refine hK _ ?_); clear hK K) | (apply Exists.intro; (with_reducible refine ⟨fun w' hw' => ?_, hK _ ?_⟩); (first | exact rfl | exact ⟨rfl, rfl⟩); clear hK K))
          ((with_reducible refine wpRead_step (fun K hK => ?_)); go_simp; first | ((with_reducible refine hK _ ?_); clear hK K) | (apply Exists.intro; (with_reducible refine ⟨fun w' hw' => ?_, hK _ ?_⟩); (first | exact rfl | exact ⟨rfl, rfl⟩); clear hK K))
          ((with_reducible refine wpRead_step (fun K hK => ?_)); go_simp; first | ((with_reducible refine hK _ ?_); clear hK K) | (apply Exists.intro; (with_reducible refine ⟨fun w' hw' => ?_, hK _ ?_⟩); (first | exact rfl | exact ⟨rfl, rfl⟩); clear hK K))
          ((with_reducible refine wpRead_step (fun K hK => ?_)); go_simp; first | ((with_reducible refine hK _ ?_); clear hK K) | (apply Exists.intro; (with_reducible refine ⟨fun w' hw' => ?_, hK _ ?_⟩); (first | exact rfl | exact ⟨rfl, rfl⟩); clear hK K))
          ((with_reducible refine wpRead_step (fun K hK => ?_)); go_simp; first | ((with_reducible refine hK _ ?_); clear hK K) | (apply Exists.intro; (with_reducible refine ⟨fun w' hw' => ?_, hK _ ?_⟩); (first | exact rfl | exact ⟨rfl, rfl⟩); clear hK K))
          ((with_reducible refine wpRead_step (fun K hK => ?_)); go_simp; first | ((with_reducible refine hK _ ?_); clear hK K) | (apply Exists.intro; (with_reducible refine ⟨fun w' hw' => ?_, hK _ ?_⟩); (first | exact rfl | exact ⟨rfl, rfl⟩); clear hK K))
          ((with_reducible refine wpRead_step (fun K hK => ?_)); go_simp; first | ((with_reducible refine hK _ ?_); clear hK K) | (apply Exists.intro; (with_reducible refine ⟨fun w' hw' => ?_, hK _ ?_⟩); (first | exact rfl | exact ⟨rfl, rfl⟩); clear hK K))
          ((with_reducible refine wpRead_step (fun K hK => ?_)); go_simp; first | ((with_reducible refine hK _ ?_); clear hK K) | (apply Exists.intro; (with_reducible refine ⟨fun w' hw' => ?_, hK _ ?_⟩); (first | exact rfl | exact ⟨rfl, rfl⟩); clear hK K))
          ((with_reducible refine wpRead_step (fun K hK => ?_)); go_simp; first | ((with_reducible refine hK _ ?_); clear hK K) | (apply Exists.intro; (with_reducible refine ⟨fun w' hw' => ?_, hK _ ?_⟩); (first | exact rfl | exact ⟨rfl, rfl⟩); clear hK K))
          ((with_reducible refine wpRead_step (fun K hK => ?_)); go_simp; first | ((with_reducible refine hK _ ?_); clear hK K) | (apply Exists.intro; (with_reducible refine ⟨fun w' hw' => ?_, hK _ ?_⟩); (first | exact rfl | exact ⟨rfl, rfl⟩); clear hK K))
          ((with_reducible refine wpRead_step (fun K hK => ?_)); go_simp; first | ((with_reducible refine hK _ ?_); clear hK K) | (apply Exists.intro; (with_reducible refine ⟨fun w' hw' => ?_, hK _ ?_⟩); (first | exact rfl | exact ⟨rfl, rfl⟩); clear hK K))
          with_reducible refine wpRead_nil ?_
          refine wpAnyH_done (by kernel_rfl) ?_ _
          go_wp2_with fail
          go_ret
          exact ⟨ret_bool (by
            rw [← HV.out]
            refine (decide_eq_false fun h => (of_decide_eq_false HBO.out) ?_).symm
            have h4 := K0.out.1
            have h5 := K0.out.2
            rw [h, h5] at h4
            exact h4.symm), K3.out.2.1⟩
        · have HG := Lib.hid (nsame_dec (c := x.g.c) (d := y.g.c) K3.out.2.2.1.g.sl K3.out.2.2.2.g.sl)
          rw [show decide (x.g.l = y.g.l) = true from decide_eq_true (congrArg Up.gone (of_decide_eq_true HBO.out))] at HG
          refine held_reads [9, 10, 11, 12, 13, 14, 15, 16, 17, 18, 19, 20] (g := 3) rfl (by kernel_rfl) K3.out.1 (fun _ _ d _ _ h => by cases d <;> exact h) ?_
          simp only [pick, List.getD_cons_zero, List.getD_cons_succ]
          ((with_reducible refine wpRead_step (fun K hK => ?_)); go_simp; first | ((with_reducible refine hK _ ?_); clear hK K) | (apply Exists.intro; (with_reducible refine ⟨fun w' hw' => ?_, hK _ ?_⟩); (first | exact rfl | exact ⟨rfl, rfl⟩); clear hK K))
          ((with_reducible refine wpRead_step (fun K hK => ?_)); go_simp; first | ((with_reducible refine hK _ ?_); clear hK K) | (apply Exists.intro; (with_reducible refine ⟨fun w' hw' => ?_, hK _ ?_⟩); (first | exact rfl | exact ⟨rfl, rfl⟩); clear hK K))
          ((with_reducible refine wpRead_step (fun K hK => ?_)); go_simp; first | ((with_reducible refine hK _ ?_); clear hK K) | (apply Exists.intro; (with_reducible refine ⟨fun w' hw' => ?_, hK _ ?_⟩); (first | exact rfl | exact ⟨rfl, rfl⟩); clear hK K))
          ((with_reducible refine wpRead_step (fun K hK => ?_)); go_simp; first | ((with_reducible refine hK _ ?_); clear hK K) | (apply Exists.intro; (with_reducible refine ⟨fun w' hw' => ?_, hK _ ?_⟩); (first | exact rfl | exact ⟨rfl, rfl⟩); clear hK K))
          ((with_reducible refine wpRead_step (fun K hK => ?_)); go_simp; first | ((with_reducible refine hK _ ?_); clear hK K) | (apply Exists.intro; (with_reducible refine ⟨fun w' hw' => ?_, hK _ ?_⟩); (first | exact rfl | exact ⟨rfl, rfl⟩); clear hK K))
          ((with_reducible refine wpRead_step (fun K hK => ?_)); go_simp; first | ((with_reducible refine hK _ ?_); clear hK K) | (apply Exists.intro; (with_reducible refine ⟨fun w' hw' => ?_, hK _ ?_⟩); (first | exact rfl | exact ⟨rfl, rfl⟩); clear hK K))
          ((with_reducible refine wpRead_step (fun K hK => ?_)); go_simp; first | ((with_reducible refine hK _ ?_); clear hK K) | (apply Exists.intro; (with_reducible refine ⟨fun w' hw' => ?_, hK _ ?_⟩); (obtain ⟨f0, f1⟩ := hw'.g0; go_simp; first | exact rfl | exact ⟨rfl, rfl⟩); clear hK K))
          ((with_reducible refine wpRead_step (fun K hK => ?_)); go_simp; first | ((with_reducible refine hK _ ?_); clear hK K) | (apply Exists.intro; (with_reducible refine ⟨fun w' hw' => ?_, hK _ ?_⟩); (first | exact rfl | exact ⟨rfl, rfl⟩); clear hK K))
          ((with_reducible refine wpRead_step (fun K hK => ?_)); go_simp; first | ((with_reducible refine hK _ ?_); clear hK K) | (apply Exists.intro; (with_reducible refine ⟨fun w' hw' => ?_, hK _ ?_⟩); (first | exact rfl | exact ⟨rfl, rfl⟩); clear hK K))
          ((with_reducible refine wpRead_step (fun K hK => ?_)); go_simp; first | ((with_reducible refine hK _ ?_); clear hK K) | (apply Exists.intro; (with_reducible refine ⟨fun w' hw' => ?_, hK _ ?_⟩); (first | exact rfl | exact ⟨rfl, rfl⟩); clear hK K))
          ((with_reducible refine wpRead_step (fun K hK => ?_)); go_simp; first | ((with_reducible refine hK _ ?_); clear hK K) | (apply Exists.intro; (with_reducible refine ⟨fun w' hw' => ?_, hK _ ?_⟩); (first | exact rfl | exact ⟨rfl, rfl⟩); clear hK K))
          ((with_reducible refine wpRead_step (fun K hK => ?_)); go_simp; first | ((with_reducible refine hK _ ?_); clear hK K) | (apply Exists.intro; (with_reducible refine ⟨fun w' hw' => ?_, hK _ ?_⟩); (obtain ⟨f0, f1⟩ := hw'.g0; go_simp; first | exact rfl | exact ⟨rfl, rfl⟩); clear hK K))
          with_reducible refine wpRead_nil ?_
          refine held_one 21 (by kernel_rfl) ?_
          simp only [pick, List.getD_cons_zero, List.getD_cons_succ]
          go_wp2_with fail
          refine (HG.out).mono ?_
          rintro e V4 ⟨rfl, hb⟩
          have K5 := Lib.hid (And.intro (K3.out.1.keep hb) (bcall K3.out.2.1 (Nat.le_refl _) hb))
          clear hb HG K3
          go_wp2_with fail
          refine ⟨K5.out.1, ?_⟩
          refine held_reads [22, 23] (g := 0) rfl (by kernel_rfl) K5.out.1 (fun _ _ d _ _ h => by cases d <;> exact h) ?_
          simp only [pick, List.getD_cons_zero, List.getD_cons_succ]
          ((with_reducible refine wpRead_step (fun K hK => ?_)); go_simp; first | ((with_reducible refine hK _ ?_); clear hK K) | (apply Exists.intro; (with_reducible refine ⟨fun w' hw' => ?_, hK _ ?_⟩); (first | exact rfl | exact ⟨rfl, rfl⟩); clear hK K))
          ((with_reducible refine wpRead_step (fun K hK => ?_)); go_simp; first | ((with_reducible refine hK _ ?_); clear hK K) | (apply Exists.intro; (with_reducible refine ⟨fun w' hw' => ?_, hK _ ?_⟩); (first | exact rfl | exact ⟨rfl, rfl⟩); clear hK K))
          with_reducible refine wpRead_nil ?_
          refine wpAnyH_done (by kernel_rfl) ?_ _
          go_wp2_with fail
          exact ⟨⟨i + 1, hlt, by first | rw [hw3] | rw [Int.natCast_succ], fun j hj => (Nat.lt_succ_iff_lt_or_eq.1 hj).elim (K1.out j) (fun e => by rw [e, K0.out.1, K0.out.2]; exact of_decide_eq_true HBO.out), K5.out.2⟩, by first | (rw [hw3]; exact mSucc hlt) | (rw [← Int.natCast_succ]; exact mSucc hlt)⟩
      · obtain rfl : n = i := by omega
        have hil : ((n : Int) < (n : Int)) = False := by simp
        have HB := Lib.hid (And.intro hb hall)
        clear hb hall
        go_wp2_with fail
        go_ret
        exact ⟨ret_bool (by rw [← HV.out]; exact (decide_eq_true (getD_ext (by rw [List.length_map, List.length_map]; exact HL.out.symm.trans HM.out) fun j hj => HB.out.2 j (by rw [List.length_map] at hj; rw [HL.out]; exact hj))).symm), HB.out.1⟩
  · have e1 : ((n : Int) == (m : Int)) = false := by simpa using fun e : (n : Int) = m => hnm (by omega)
    have HV := Lib.hid (show decide (L.map UpV.up = M.map UpV.up) = false from decide_eq_false fun e => hnm (by
      have h1 := congrArg List.length e
      rw [List.length_map, List.length_map] at h1
      have h2 : n = L.length := h.sl.len
      have h3 : m = M.length := k.sl.len
      omega))
    generalize decide (L.map UpV.up = M.map UpV.up) = v at *
    clear h k hnm
    go_enter Tryz.func15, Tryz.ntmps15
    go_wp2_with fail
    go_ret
    exact ⟨ret_bool HV.out.symm, Below.refl _ _⟩
end Go.Proofs.YtadoflcomienoaaGreat
