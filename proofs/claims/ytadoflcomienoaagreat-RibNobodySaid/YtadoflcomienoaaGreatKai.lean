/- walk: a recursive iterator. -/
import Derived.Test.YtadoflcomienoaaGreatKah
import Derived.Test.YtadoflcomienoaaGreatKaa
import Derived.Test.YtadoflcomienoaaGreatKac
import Derived.Shelf.Abstract
import Derived.OwnWalkIn
import Derived.TacticsInMore
import Derived.LoopNIn
import Derived.LoopIn
import Derived.Maps.AppendAt
namespace Go.Proofs.YtadoflcomienoaaGreat.Tm
open Go.RowKit Go.Shelf
attribute [local go_sem] Oper.semAt_some

/-- yield, in every world of the iterator's -/
def YieldsM (l B N : Nat) (J Jx : List (Nat × Nat) → World → Prop) : Prop :=
  ∀ m pre (x : Nat × Nat) W, J pre W → pre.length < N → YieldAt Fence.wide m Tryz.prog l #[pfx x.1 x.2] W fun e W' =>
      (e = .returned (.bool true) ∧ J (pre ++ [x]) W' ∧ Kp B W W') ∨ (e = .returned (.bool false) ∧ Jx (pre ++ [x]) W')
def WalkRM (B : Nat) (J Jx : List (Nat × Nat) → World → Prop) (pre xs : List (Nat × Nat)) (W : World) (e : Ending) (W' : World) : Prop :=
  (e = .returned (.bool true) ∧ J (pre ++ xs) W' ∧ Kp B W W') ∨ (e = .returned (.bool false) ∧ ∃ q, q <+: xs ∧ Jx (pre ++ q) W')
abbrev RdyM := Rdy (α := (Option Nat)) 172 174 (Value.map) none
set_option maxRecDepth 100000 in
set_option maxHeartbeats 4000000 in
theorem walkM_nil (l : Nat) (p : Value) (B : Nat) (J Jx : List (Nat × Nat) → World → Prop) (B1 : Nat) (hJ : AbidesFrom B1 J) (x1 x2 : Int) (hp : p = .agg #[.int .u32 x1, .int .i64 x2]) (pre : List (Nat × Nat)) (W : World) (hB : B < W.heap.size) (h0 : J pre W) (m : Nat) :
    CallsIn Fence.wide m Tryz.prog 197 #[.pointer none, p, .func (.yield l) #[] #[]] W fun e W' => WalkRM B J Jx pre [] W e W' := by
  subst hp
  refine callsIn_of_wp Tryz.func197 rfl trivial ?_ rfl
  simp only [Tryz.ntmps197, List.size_toArray, List.length_cons, List.length_nil, Nat.reduceAdd, Nat.reduceSub, Array.replicate_succ, Array.replicate_zero, List.push_toArray, List.append_toArray, List.nil_append, List.cons_append]
  gi_wp2
  go_ret
  exact .inl ⟨rfl, by simpa using abides_below hJ h0 ((Below.refl _ _).alloc (Nat.le_refl _) _), Kp.of_below hB ((Below.refl _ _).alloc (Nat.le_refl _) _)⟩
set_option maxRecDepth 100000 in
set_option maxHeartbeats 20000000 in
theorem walkM_in (l B : Nat) (J Jx : List (Nat × Nat) → World → Prop) (B1 : Nat) (hJ : AbidesFrom B1 J) (cap b n : Nat) (N : Nat → Nat → Option Nat) (M : Nat → Nat → Option (Option Nat)) (hY : YieldsM l B cap J Jx) :
    ∀ (f x e : Nat) (p1 p2 : Int) (pre : List (Nat × Nat)) (W : World) (m : Nat), 33 ≤ e + f → RdyM B W b N n M → (Key x e ∨ 32 < e) → ((N x e).isSome → p1 = x ∧ p2 = e) → J pre W → pre.length + (trav M f x e).length ≤ cap →
    CallsIn Fence.wide m Tryz.prog 197 #[ptr (N x e), .agg #[.int .u32 p1, .int .i64 p2], .func (.yield l) #[] #[]] W fun e' W' => WalkRM B J Jx pre (trav M f x e) W e' W' := by
  intro f
  induction f with
  | zero =>
    intro x e p1 p2 pre W m hf hr hkey hp h0 hcap
    rw [hr.trie.none33 _ (by omega)]
    exact walkM_nil l _ B J Jx B1 hJ p1 p2 rfl pre W hr.box h0 m
  | succ f ih =>
    intro x e p1 p2 pre W m hf hr hkey hp h0 hcap
    cases hN : N x e with
    | none =>
      rw [hr.trie.trav_none (f + 1) x e hkey hN]
      exact walkM_nil l _ B J Jx B1 hJ p1 p2 rfl pre W hr.box h0 m
    | some k =>
      obtain ⟨rfl, rfl⟩ := hp (by rw [hN]; rfl)
      have hK := hr.trie.key _ _ _ hN
      have hle := hK.le
      have hkl := hr.trie.lt (.inr ⟨_, _, hN⟩)
      have hb0 := ((Below.refl W.heap.size W).alloc (Nat.le_refl _) (.cells #[.int .u32 x, .int .i64 e] 58))
      have hpb := hnew W (.cells #[.int .u32 x, .int .i64 e] 58)
      have hS0 := Safe.new hr.box hr.fresh hb0 (Nat.le_refl _) hpb
      have hJ0 := abides_below hJ h0 hb0
      have hr0 := hr.kp (Kp.of_below hr.box hb0)
      have hk0 := Kp.of_below hr.box hb0
      have q0 : (W.alloc (.cells #[.int .u32 x, .int .i64 e] 58)).cell? ⟨W.heap.size, 0, none⟩ = some (.int .u32 x) := cell_of hpb rfl
      have q1 : (W.alloc (.cells #[.int .u32 x, .int .i64 e] 58)).cell? ⟨W.heap.size, 1, none⟩ = some (.int .i64 e) := cell_of hpb rfl
      obtain ⟨c0, c1, c2, c3, -⟩ := nodeM hr0.trie hN
      rw [trav] at hcap ⊢
      have HIH := Lib.hid ih
      have HJ := Lib.hid (And.intro hJ hY)
      have hdd : ∀ k : Nat, (Fence.wide.depth.isSome = true → 1 ≤ k) := fun k h => by cases h
      cases hM : M x e with
      | none =>
        rw [hM] at c3 hcap
        simp only [Option.isSome_none, Bool.false_eq_true, if_false, List.nil_append] at c3 hcap ⊢
        have H0 := Lib.hid (And.intro hr (And.intro hr0 (And.intro hk0 (And.intro hS0 (And.intro hJ0 (And.intro hpb (And.intro hN (And.intro hcap hK))))))))
        clear hr hr0 hk0 hS0 hJ0 hpb hN hcap ih hJ hY hp h0 hK hb0 c0 c1 c2 hM
        unfold ptr
        simp only [Option.map_some]
        refine callsIn_of_wp Tryz.func197 rfl trivial ?_ rfl
        simp only [Tryz.ntmps197, List.size_toArray, List.length_cons, List.length_nil, Nat.reduceAdd, Nat.reduceSub, Array.replicate_succ, Array.replicate_zero, List.push_toArray, List.append_toArray, List.nil_append, List.cons_append]
        by_cases h32 : e < 32
        · have h32' : (e : Int) < 32 := by omega
          have hee : IntKind.i64.wrap ((e : Int) + 1) = (e : Int) + 1 := IntWalk.i64_in _ (by omega)
          gi_wp2
          refine ⟨fun _ h => (by cases h), ?_⟩
          gi_wp2
          have hL : (((W.alloc (.cells #[.int .u32 x, .int .i64 e] 58)).alloc (.cells #[.int .u32 x, .int .i64 ((e : Int) + 1)] 58)).alloc (.cells #[.int .u32 x, .int .i64 ((e : Int) + 1)] 58)).heap[W.heap.size + 1]? = some (.cells #[.int .u32 x, .int .i64 ((e : Int) + 1)] 58) := hold (hnewAt (by simp))
          have hH : (((W.alloc (.cells #[.int .u32 x, .int .i64 e] 58)).alloc (.cells #[.int .u32 x, .int .i64 ((e : Int) + 1)] 58)).alloc (.cells #[.int .u32 x, .int .i64 ((e : Int) + 1)] 58)).heap[W.heap.size + 1 + 1]? = some (.cells #[.int .u32 x, .int .i64 ((e : Int) + 1)] 58) := hnewAt (by simp)
          have hbl : Below (W.alloc (.cells #[.int .u32 x, .int .i64 e] 58)).heap.size (W.alloc (.cells #[.int .u32 x, .int .i64 e] 58)) (((W.alloc (.cells #[.int .u32 x, .int .i64 e] 58)).alloc (.cells #[.int .u32 x, .int .i64 ((e : Int) + 1)] 58)).alloc (.cells #[.int .u32 x, .int .i64 ((e : Int) + 1)] 58)) := ((Below.refl _ _).alloc (Nat.le_refl _) _).alloc (by simp) _
          have hLs : (W.alloc (.cells #[.int .u32 x, .int .i64 e] 58)).heap.size = W.heap.size + 1 := by simp
          have q1' := (Below.cell hbl (p := ⟨W.heap.size, 1, none⟩) (by simp)).trans q1
          generalize ((W.alloc (.cells #[.int .u32 x, .int .i64 e] 58)).alloc (.cells #[.int .u32 x, .int .i64 ((e : Int) + 1)] 58)).alloc (.cells #[.int .u32 x, .int .i64 ((e : Int) + 1)] 58) = w2 at hL hH hbl q1' ⊢
          have d0 : w2.cell? ⟨W.heap.size + 1 + 1, 0, none⟩ = some (.int .u32 x) := cell_of hH rfl
          have f0 : w2.frozen? ⟨W.heap.size + 1 + 1, 0, none⟩ = false := free_of hH
          have HL := Lib.hid (And.intro hL (And.intro hH (And.intro hbl hLs)))
          have hw31 : IntKind.i64.wrap ((31 : Int) - e) = 31 - e := IntWalk.i64_in _ (by omega)
          have he31 : ¬ (31 < e) := by omega
          have hn31 : ¬ ((31 : Int) - e < 0) := by omega
          clear hL hH hbl hLs q0 q1
          refine wpIn_wide.2 ?_
          refine wp_region_quiet_tail (fun w' => w' = w2.drew) 8 (by kernel_rfl) (by kernel_rfl) rfl ?_
          simp only [List.take_succ_cons, List.take_zero, List.drop_succ_cons, List.drop_zero]
          iterate 8 ((with_reducible refine wpQuiet_step (fun K hK => ?_)); go_simp; (with_reducible refine hK _ ?_); clear hK K)
          refine wpQuiet_nil ?_
          rintro _ rfl
          clear q1'
          go_wp2_with fail
          gi_wp2
          have hfin : ∃ w3, w3 = (w2.setCell ⟨W.heap.size + 1 + 1, 0, none⟩ (.int .u32 (bits .or .u32 (x : Int) (2 ^ (31 - e) % 4294967296)))).drew := ⟨_, rfl⟩
          obtain ⟨w3, hw3⟩ := hfin
          rw [← hw3]
          obtain ⟨hL, hH, hbl, hLs⟩ := HL.out
          have hs := (SetB.self hH).store (o := 0) (lt_of_blk hH) (.int .u32 (bits .or .u32 (x : Int) (2 ^ (31 - e) % 4294967296)))
          rw [or_kid H0.out.2.2.2.2.2.2.2.2 (by omega)] at hs hw3
          have hL3 : w3.heap[W.heap.size + 1]? = some (.cells #[.int .u32 x, .int .i64 ((e : Int) + 1)] 58) := by rw [hw3]; exact (hs.other (by omega)).trans hL
          have hH3 : w3.heap[W.heap.size + 1 + 1]? = some (.cells #[.int .u32 (kid x e true : Nat), .int .i64 ((e : Int) + 1)] 58) := by rw [hw3]; exact hs.at (lt_of_blk hH)
          have hb3 : Below (W.alloc (.cells #[.int .u32 x, .int .i64 e] 58)).heap.size (W.alloc (.cells #[.int .u32 x, .int .i64 e] 58)) w3 := by rw [hw3]; exact hbl.trans (bdn (hs.below (by simp)) 1)
          clear hw3 hs hL hH hbl d0 f0 HL
          obtain ⟨_, hr0, hk0, _, hJ0, _, _, hcap0, _⟩ := H0.out
          have hk3' := Kp.of_below hr0.box hb3
          have hr3 := hr0.kp hk3'
          have hJ3 := abides_below HJ.out.1 hJ0 hb3
          have hk3 := hk0.trans hk3'
          have hcap3 := hcap0
          have hS3 := Safe.new hr0.box hr0.fresh hb3 (by simp) hH3
          clear hk3' hr0 hk0 hJ0 hcap0 hb3
          generalize hphe : ((kid x e true : Nat) : Int) = ph at hH3
          have hph : (N (kid x e true) (e + 1)).isSome → ph = ((kid x e true : Nat) : Int) ∧ (e : Int) + 1 = ((e + 1 : Nat) : Int) := fun _ => ⟨hphe.symm, rfl⟩
          clear hphe
          have HR3 := Lib.hid (And.intro hr3 (And.intro hJ3 (And.intro hk3 (And.intro hcap3 hph))))
          have hkeyc : ∀ c, Key (kid x e c) (e + 1) ∨ 32 < e + 1 := fun c => by
            by_cases h : e ≤ 31
            · exact .inl (H0.out.2.2.2.2.2.2.2.2.kid h c)
            · exact .inr (by omega)
          have HKC := Lib.hid hkeyc
          have ih0 := Lib.hid (HIH.out (kid x e false) (e + 1) x ((e : Int) + 1) pre w3.drew m (by omega) (hr3.kp (Kp.of_below hr3.box (Below.drew (Below.refl _ _)))) (hkeyc false) (fun _ => ⟨rfl, rfl⟩) (abides_below HJ.out.1 hJ3 (Below.drew (Below.refl _ _))) (by simp only [List.length_append] at hcap3 ⊢; omega))
          obtain ⟨c0, c1, -, -, -⟩ := nodeM hr3.trie H0.out.2.2.2.2.2.2.1
          have l0 : w3.cell? ⟨W.heap.size + 1, 0, none⟩ = some (.int .u32 x) := cell_of hL3 rfl
          have l1 : w3.cell? ⟨W.heap.size + 1, 1, none⟩ = some (.int .i64 ((e : Int) + 1)) := cell_of hL3 rfl
          have HH3 := Lib.hid (And.intro hH3 hS3)
          clear hr3 hJ3 hk3 hcap3 hkeyc hph hL3 hH3 hS3 c1
          unfold ptr at c0 ih0
          refine wpIn_wide.2 ?_
          refine wp_region_pieces (by kernel_rfl) ?_
          refine wpAny_seg (fun w' => w' = w3.drew) [0, 1, 2, 3, 4, 5, 6] (g := 12) rfl (by kernel_rfl) rfl ?_
          simp only [pick, List.getD_cons_zero, List.getD_cons_succ]
          iterate 7 ((with_reducible refine wpQuiet_step (fun K hK => ?_)); go_simp; (with_reducible refine hK _ ?_); clear hK K)
          refine wpQuiet_nil ?_
          rintro _ rfl
          clear c0 l0 l1
          refine wpAny_one 7 (by kernel_rfl) ?_
          simp only [pick, List.getD_cons_zero, List.getD_cons_succ]
          go_wp2_with (go_at_call 197; refine (callsIn_wide.1 ih0.out).mono ?_; rintro e4 w4 (⟨rfl, hJ4, hk4⟩ | ⟨rfl, q, hq, hx4⟩))
          · obtain ⟨hr3, hJ3, hk3, hcap3, hph⟩ := HR3.out
            obtain ⟨hH3, hS3⟩ := HH3.out
            have hkd := Kp.of_below hr3.box (Below.drew (Below.refl w3.heap.size w3))
            have hk34 := hkd.trans hk4
            have hr4 := hr3.kp hk34
            obtain ⟨-, c1, -, -, -⟩ := nodeM hr4.trie H0.out.2.2.2.2.2.2.1
            have hH4 := (hS3.kp hk34).2.trans hH3
            have l0 : w4.cell? ⟨W.heap.size + 1 + 1, 0, none⟩ = some (.int .u32 ph) := cell_of hH4 rfl
            have l1 : w4.cell? ⟨W.heap.size + 1 + 1, 1, none⟩ = some (.int .i64 ((e : Int) + 1)) := cell_of hH4 rfl
            have ih1 := Lib.hid (HIH.out (kid x e true) (e + 1) ph ((e : Int) + 1) (pre ++ trav M f (kid x e false) (e + 1)) w4 m (by omega) hr4 (HKC.out true) hph hJ4 (by simp only [List.length_append] at hcap3 ⊢; omega))
            have HK4 := Lib.hid (hk3.trans hk34)
            clear hr3 hJ3 hk3 hcap3 hph hH3 hS3 hkd hk34 hr4 hH4 hJ4 hk4 ih0 HR3 HH3 HIH
            unfold ptr at c1 ih1
            refine wpAny_one 8 (by kernel_rfl) ?_
            simp only [pick, List.getD_cons_zero, List.getD_cons_succ]
            go_wp2_with fail
            refine wpAny_seg (fun w' => w' = w4) [9, 10, 11, 12, 13, 14, 15] (g := 3) rfl (by kernel_rfl) rfl ?_
            simp only [pick, List.getD_cons_zero, List.getD_cons_succ]
            iterate 7 ((with_reducible refine wpQuiet_step (fun K hK => ?_)); go_simp; (with_reducible refine hK _ ?_); clear hK K)
            refine wpQuiet_nil ?_
            rintro _ rfl
            clear c1 l0 l1
            refine wpAny_one 16 (by kernel_rfl) ?_
            simp only [pick, List.getD_cons_zero, List.getD_cons_succ]
            go_wp2_with (go_at_call 197; refine (callsIn_wide.1 ih1.out).mono ?_; rintro e5 w5 (⟨rfl, hJ5, hk5⟩ | ⟨rfl, q, hq, hx5⟩))
            · refine wpAny_one 17 (by kernel_rfl) ?_
              simp only [pick, List.getD_cons_zero, List.getD_cons_succ]
              go_wp2_with fail
              refine wpAny_one 18 (by kernel_rfl) ?_
              simp only [pick, List.getD_cons_zero, List.getD_cons_succ]
              go_wp2_with fail
              refine wpAny_done (by kernel_rfl) ?_ _
              gi_wp2
              go_ret
              exact .inl ⟨rfl, by simpa [List.append_assoc] using hJ5, HK4.out.trans hk5⟩
            · refine wpAny_one 17 (by kernel_rfl) ?_
              simp only [pick, List.getD_cons_zero, List.getD_cons_succ]
              go_wp2_with fail
              refine wpAny_one 18 (by kernel_rfl) ?_
              simp only [pick, List.getD_cons_zero, List.getD_cons_succ]
              go_wp2_with fail
              refine wpAny_done (by kernel_rfl) ?_ _
              gi_wp2
              go_ret
              obtain ⟨t, ht⟩ := hq
              exact .inr ⟨rfl, (trav M f (kid x e false) (e + 1) ++ q), ⟨t, by simp [← ht]⟩, by simpa [List.append_assoc] using hx5⟩
          · clear ih0 HR3 HH3 HIH
            refine wpAny_one 8 (by kernel_rfl) ?_
            simp only [pick, List.getD_cons_zero, List.getD_cons_succ]
            go_wp2_with fail
            refine wpAny_seg (fun w' => w' = w4) [9, 10, 11, 12, 13, 14, 15] (g := 3) rfl (by kernel_rfl) rfl ?_
            simp only [pick, List.getD_cons_zero, List.getD_cons_succ]
            iterate 7 ((with_reducible refine wpQuiet_step (fun K hK => ?_)); go_simp; (with_reducible refine hK _ ?_); clear hK K)
            refine wpQuiet_nil ?_
            rintro _ rfl
            refine wpAny_one 16 (by kernel_rfl) ?_
            simp only [pick, List.getD_cons_zero, List.getD_cons_succ]
            go_wp2_with fail
            refine wpAny_one 17 (by kernel_rfl) ?_
            simp only [pick, List.getD_cons_zero, List.getD_cons_succ]
            go_wp2_with fail
            refine wpAny_one 18 (by kernel_rfl) ?_
            simp only [pick, List.getD_cons_zero, List.getD_cons_succ]
            go_wp2_with fail
            refine wpAny_done (by kernel_rfl) ?_ _
            gi_wp2
            go_ret
            obtain ⟨t, ht⟩ := hq
            exact .inr ⟨rfl, q, ⟨t ++ trav M f (kid x e true) (e + 1), by simp [← ht, List.append_assoc]⟩, by simpa [List.append_assoc] using hx4⟩

        · have h32' : ¬ ((e : Int) < 32) := by omega
          have hee : IntKind.i64.wrap ((e : Int) + 1) = (e : Int) + 1 := IntWalk.i64_in _ (by omega)
          gi_wp2
          refine ⟨fun _ h => (by cases h), ?_⟩
          gi_wp2
          have hL : (((W.alloc (.cells #[.int .u32 x, .int .i64 e] 58)).alloc (.cells #[.int .u32 x, .int .i64 ((e : Int) + 1)] 58)).alloc (.cells #[.int .u32 x, .int .i64 ((e : Int) + 1)] 58)).heap[W.heap.size + 1]? = some (.cells #[.int .u32 x, .int .i64 ((e : Int) + 1)] 58) := hold (hnewAt (by simp))
          have hH : (((W.alloc (.cells #[.int .u32 x, .int .i64 e] 58)).alloc (.cells #[.int .u32 x, .int .i64 ((e : Int) + 1)] 58)).alloc (.cells #[.int .u32 x, .int .i64 ((e : Int) + 1)] 58)).heap[W.heap.size + 1 + 1]? = some (.cells #[.int .u32 x, .int .i64 ((e : Int) + 1)] 58) := hnewAt (by simp)
          have hbl : Below (W.alloc (.cells #[.int .u32 x, .int .i64 e] 58)).heap.size (W.alloc (.cells #[.int .u32 x, .int .i64 e] 58)) (((W.alloc (.cells #[.int .u32 x, .int .i64 e] 58)).alloc (.cells #[.int .u32 x, .int .i64 ((e : Int) + 1)] 58)).alloc (.cells #[.int .u32 x, .int .i64 ((e : Int) + 1)] 58)) := ((Below.refl _ _).alloc (Nat.le_refl _) _).alloc (by simp) _
          have hLs : (W.alloc (.cells #[.int .u32 x, .int .i64 e] 58)).heap.size = W.heap.size + 1 := by simp
          generalize ((W.alloc (.cells #[.int .u32 x, .int .i64 e] 58)).alloc (.cells #[.int .u32 x, .int .i64 ((e : Int) + 1)] 58)).alloc (.cells #[.int .u32 x, .int .i64 ((e : Int) + 1)] 58) = w3 at hL hH hbl ⊢
          have hL3 := hL
          have hH3 := hH
          have hb3 := hbl
          clear hL hH hbl
          obtain ⟨_, hr0, hk0, _, hJ0, _, _, hcap0, _⟩ := H0.out
          have hk3' := Kp.of_below hr0.box hb3
          have hr3 := hr0.kp hk3'
          have hJ3 := abides_below HJ.out.1 hJ0 hb3
          have hk3 := hk0.trans hk3'
          have hcap3 := hcap0
          have hS3 := Safe.new hr0.box hr0.fresh hb3 (by simp) hH3
          clear hk3' hr0 hk0 hJ0 hcap0 hb3
          have hno : N (kid x e true) (e + 1) = none := hr3.trie.none33 _ (by omega)
          have hph : (N (kid x e true) (e + 1)).isSome → (x : Int) = ((kid x e true : Nat) : Int) ∧ (e : Int) + 1 = ((e + 1 : Nat) : Int) := fun hs => by rw [hno] at hs; cases hs
          clear hno
          generalize hphe : (x : Int) = ph at hH3 hph
          clear hphe
          have HR3 := Lib.hid (And.intro hr3 (And.intro hJ3 (And.intro hk3 (And.intro hcap3 hph))))
          have hkeyc : ∀ c, Key (kid x e c) (e + 1) ∨ 32 < e + 1 := fun c => by
            by_cases h : e ≤ 31
            · exact .inl (H0.out.2.2.2.2.2.2.2.2.kid h c)
            · exact .inr (by omega)
          have HKC := Lib.hid hkeyc
          have ih0 := Lib.hid (HIH.out (kid x e false) (e + 1) x ((e : Int) + 1) pre w3.drew m (by omega) (hr3.kp (Kp.of_below hr3.box (Below.drew (Below.refl _ _)))) (hkeyc false) (fun _ => ⟨rfl, rfl⟩) (abides_below HJ.out.1 hJ3 (Below.drew (Below.refl _ _))) (by simp only [List.length_append] at hcap3 ⊢; omega))
          obtain ⟨c0, c1, -, -, -⟩ := nodeM hr3.trie H0.out.2.2.2.2.2.2.1
          have l0 : w3.cell? ⟨W.heap.size + 1, 0, none⟩ = some (.int .u32 x) := cell_of hL3 rfl
          have l1 : w3.cell? ⟨W.heap.size + 1, 1, none⟩ = some (.int .i64 ((e : Int) + 1)) := cell_of hL3 rfl
          have HH3 := Lib.hid (And.intro hH3 hS3)
          clear hr3 hJ3 hk3 hcap3 hkeyc hph hL3 hH3 hS3 c1
          unfold ptr at c0 ih0
          refine wpIn_wide.2 ?_
          refine wp_region_pieces (by kernel_rfl) ?_
          refine wpAny_seg (fun w' => w' = w3.drew) [0, 1, 2, 3, 4, 5, 6] (g := 12) rfl (by kernel_rfl) rfl ?_
          simp only [pick, List.getD_cons_zero, List.getD_cons_succ]
          iterate 7 ((with_reducible refine wpQuiet_step (fun K hK => ?_)); go_simp; (with_reducible refine hK _ ?_); clear hK K)
          refine wpQuiet_nil ?_
          rintro _ rfl
          clear c0 l0 l1
          refine wpAny_one 7 (by kernel_rfl) ?_
          simp only [pick, List.getD_cons_zero, List.getD_cons_succ]
          go_wp2_with (go_at_call 197; refine (callsIn_wide.1 ih0.out).mono ?_; rintro e4 w4 (⟨rfl, hJ4, hk4⟩ | ⟨rfl, q, hq, hx4⟩))
          · obtain ⟨hr3, hJ3, hk3, hcap3, hph⟩ := HR3.out
            obtain ⟨hH3, hS3⟩ := HH3.out
            have hkd := Kp.of_below hr3.box (Below.drew (Below.refl w3.heap.size w3))
            have hk34 := hkd.trans hk4
            have hr4 := hr3.kp hk34
            obtain ⟨-, c1, -, -, -⟩ := nodeM hr4.trie H0.out.2.2.2.2.2.2.1
            have hH4 := (hS3.kp hk34).2.trans hH3
            have l0 : w4.cell? ⟨W.heap.size + 1 + 1, 0, none⟩ = some (.int .u32 ph) := cell_of hH4 rfl
            have l1 : w4.cell? ⟨W.heap.size + 1 + 1, 1, none⟩ = some (.int .i64 ((e : Int) + 1)) := cell_of hH4 rfl
            have ih1 := Lib.hid (HIH.out (kid x e true) (e + 1) ph ((e : Int) + 1) (pre ++ trav M f (kid x e false) (e + 1)) w4 m (by omega) hr4 (HKC.out true) hph hJ4 (by simp only [List.length_append] at hcap3 ⊢; omega))
            have HK4 := Lib.hid (hk3.trans hk34)
            clear hr3 hJ3 hk3 hcap3 hph hH3 hS3 hkd hk34 hr4 hH4 hJ4 hk4 ih0 HR3 HH3 HIH
            unfold ptr at c1 ih1
            refine wpAny_one 8 (by kernel_rfl) ?_
            simp only [pick, List.getD_cons_zero, List.getD_cons_succ]
            go_wp2_with fail
            refine wpAny_seg (fun w' => w' = w4) [9, 10, 11, 12, 13, 14, 15] (g := 3) rfl (by kernel_rfl) rfl ?_
            simp only [pick, List.getD_cons_zero, List.getD_cons_succ]
            iterate 7 ((with_reducible refine wpQuiet_step (fun K hK => ?_)); go_simp; (with_reducible refine hK _ ?_); clear hK K)
            refine wpQuiet_nil ?_
            rintro _ rfl
            clear c1 l0 l1
            refine wpAny_one 16 (by kernel_rfl) ?_
            simp only [pick, List.getD_cons_zero, List.getD_cons_succ]
            go_wp2_with (go_at_call 197; refine (callsIn_wide.1 ih1.out).mono ?_; rintro e5 w5 (⟨rfl, hJ5, hk5⟩ | ⟨rfl, q, hq, hx5⟩))
            · refine wpAny_one 17 (by kernel_rfl) ?_
              simp only [pick, List.getD_cons_zero, List.getD_cons_succ]
              go_wp2_with fail
              refine wpAny_one 18 (by kernel_rfl) ?_
              simp only [pick, List.getD_cons_zero, List.getD_cons_succ]
              go_wp2_with fail
              refine wpAny_done (by kernel_rfl) ?_ _
              gi_wp2
              go_ret
              exact .inl ⟨rfl, by simpa [List.append_assoc] using hJ5, HK4.out.trans hk5⟩
            · refine wpAny_one 17 (by kernel_rfl) ?_
              simp only [pick, List.getD_cons_zero, List.getD_cons_succ]
              go_wp2_with fail
              refine wpAny_one 18 (by kernel_rfl) ?_
              simp only [pick, List.getD_cons_zero, List.getD_cons_succ]
              go_wp2_with fail
              refine wpAny_done (by kernel_rfl) ?_ _
              gi_wp2
              go_ret
              obtain ⟨t, ht⟩ := hq
              exact .inr ⟨rfl, (trav M f (kid x e false) (e + 1) ++ q), ⟨t, by simp [← ht]⟩, by simpa [List.append_assoc] using hx5⟩
          · clear ih0 HR3 HH3 HIH
            refine wpAny_one 8 (by kernel_rfl) ?_
            simp only [pick, List.getD_cons_zero, List.getD_cons_succ]
            go_wp2_with fail
            refine wpAny_seg (fun w' => w' = w4) [9, 10, 11, 12, 13, 14, 15] (g := 3) rfl (by kernel_rfl) rfl ?_
            simp only [pick, List.getD_cons_zero, List.getD_cons_succ]
            iterate 7 ((with_reducible refine wpQuiet_step (fun K hK => ?_)); go_simp; (with_reducible refine hK _ ?_); clear hK K)
            refine wpQuiet_nil ?_
            rintro _ rfl
            refine wpAny_one 16 (by kernel_rfl) ?_
            simp only [pick, List.getD_cons_zero, List.getD_cons_succ]
            go_wp2_with fail
            refine wpAny_one 17 (by kernel_rfl) ?_
            simp only [pick, List.getD_cons_zero, List.getD_cons_succ]
            go_wp2_with fail
            refine wpAny_one 18 (by kernel_rfl) ?_
            simp only [pick, List.getD_cons_zero, List.getD_cons_succ]
            go_wp2_with fail
            refine wpAny_done (by kernel_rfl) ?_ _
            gi_wp2
            go_ret
            obtain ⟨t, ht⟩ := hq
            exact .inr ⟨rfl, q, ⟨t ++ trav M f (kid x e true) (e + 1), by simp [← ht, List.append_assoc]⟩, by simpa [List.append_assoc] using hx4⟩

      | some y =>
        rw [hM] at c3 hcap
        simp only [Option.isSome_some, if_true, List.cons_append, List.nil_append] at c3 hcap ⊢
        have hcap1 : (pre ++ [(x, e)]).length + (trav M f (kid x e false) (e + 1) ++ trav M f (kid x e true) (e + 1)).length ≤ cap := by
          simp only [List.length_cons, List.length_append, List.length_nil] at hcap ⊢; omega
        obtain ⟨fn, tmps, assign, body, hy, hR⟩ := hY (m - 1) pre (x, e) _ hJ0 (by simp only [List.length_cons] at hcap; omega)
        dsimp only [pfx] at hy
        have hR2 := hR.mono (R' := fun e' W1 => (e' = .returned (.bool true) ∧ W.heap.size < W1.heap.size ∧ W1.cell? ⟨W.heap.size, 0, none⟩ = some (.int .u32 x) ∧ W1.cell? ⟨W.heap.size, 1, none⟩ = some (.int .i64 e) ∧ W1.heap[W.heap.size]? = some (.cells #[.int .u32 x, .int .i64 e] 58) ∧ RdyM B W1 b N n M ∧ Kp B W W1 ∧ Safe B W1 W.heap.size ∧ J (pre ++ [(x, e)]) W1) ∨ (e' = .returned (.bool false) ∧ Jx (pre ++ [(x, e)]) W1))
          (fun e' W1 h => h.elim (fun ⟨he, hj, hk1⟩ => .inl ⟨he, lt_of_blk ((hS0.kp hk1).2.trans hpb), cell_of ((hS0.kp hk1).2.trans hpb) rfl, cell_of ((hS0.kp hk1).2.trans hpb) rfl, (hS0.kp hk1).2.trans hpb, hr0.kp hk1, hk0.trans hk1, (hS0.kp hk1).1, hj⟩) .inr)
        have H1 := Lib.hid (And.intro hr (And.intro hN (And.intro hcap1 hK)))
        clear hr hr0 hk0 hS0 hJ0 hpb hN hcap hcap1 ih hJ hY hp h0 hK hb0 c0 c1 c2 hM hR
        unfold ptr
        simp only [Option.map_some]
        by_cases h32 : e < 32
        · have h32' : (e : Int) < 32 := by omega
          have hee : IntKind.i64.wrap ((e : Int) + 1) = (e : Int) + 1 := IntWalk.i64_in _ (by omega)
          refine callsIn_of_wp Tryz.func197 rfl trivial ?_ rfl
          simp only [Tryz.ntmps197, List.size_toArray, List.length_cons, List.length_nil, Nat.reduceAdd, Nat.reduceSub, Array.replicate_succ, Array.replicate_zero, List.push_toArray, List.append_toArray, List.nil_append, List.cons_append]
          gi_wp2_with ((try refine ⟨hdd _, ?_⟩); refine hR2.mono ?_; clear hR2; rintro e1 w1 (⟨rfl, hlt1, r0, r1, hpb, hr0, hk0, hS0, hJ0⟩ | ⟨rfl, hx1⟩))
          · have H0 := Lib.hid (And.intro H1.out.1 (And.intro hr0 (And.intro hk0 (And.intro hS0 (And.intro hJ0 (And.intro hpb (And.intro H1.out.2.1 (And.intro H1.out.2.2.1 H1.out.2.2.2))))))))
            clear hpb hr0 hk0 hS0 hJ0 hy q0 q1 c3
            have hL : ((w1.alloc (.cells #[.int .u32 x, .int .i64 ((e : Int) + 1)] 58)).alloc (.cells #[.int .u32 x, .int .i64 ((e : Int) + 1)] 58)).heap[w1.heap.size]? = some (.cells #[.int .u32 x, .int .i64 ((e : Int) + 1)] 58) := hold (hnewAt (by simp))
            have hH : ((w1.alloc (.cells #[.int .u32 x, .int .i64 ((e : Int) + 1)] 58)).alloc (.cells #[.int .u32 x, .int .i64 ((e : Int) + 1)] 58)).heap[w1.heap.size + 1]? = some (.cells #[.int .u32 x, .int .i64 ((e : Int) + 1)] 58) := hnewAt (by simp)
            have hbl : Below w1.heap.size w1 ((w1.alloc (.cells #[.int .u32 x, .int .i64 ((e : Int) + 1)] 58)).alloc (.cells #[.int .u32 x, .int .i64 ((e : Int) + 1)] 58)) := ((Below.refl _ _).alloc (Nat.le_refl _) _).alloc (by simp) _
            have hLs : w1.heap.size = w1.heap.size := by simp
            have q1' := (Below.cell hbl (p := ⟨W.heap.size, 1, none⟩) hlt1).trans r1
            generalize (w1.alloc (.cells #[.int .u32 x, .int .i64 ((e : Int) + 1)] 58)).alloc (.cells #[.int .u32 x, .int .i64 ((e : Int) + 1)] 58) = w2 at hL hH hbl q1' ⊢
            have d0 : w2.cell? ⟨w1.heap.size + 1, 0, none⟩ = some (.int .u32 x) := cell_of hH rfl
            have f0 : w2.frozen? ⟨w1.heap.size + 1, 0, none⟩ = false := free_of hH
            have HL := Lib.hid (And.intro hL (And.intro hH (And.intro hbl hLs)))
            have hw31 : IntKind.i64.wrap ((31 : Int) - e) = 31 - e := IntWalk.i64_in _ (by omega)
            have he31 : ¬ (31 < e) := by omega
            have hn31 : ¬ ((31 : Int) - e < 0) := by omega
            clear hL hH hbl hLs r0 r1
            refine wpIn_wide.2 ?_
            refine wp_region_quiet_tail (fun w' => w' = w2.drew) 8 (by kernel_rfl) (by kernel_rfl) rfl ?_
            simp only [List.take_succ_cons, List.take_zero, List.drop_succ_cons, List.drop_zero]
            iterate 8 ((with_reducible refine wpQuiet_step (fun K hK => ?_)); go_simp; (with_reducible refine hK _ ?_); clear hK K)
            refine wpQuiet_nil ?_
            rintro _ rfl
            clear q1'
            go_wp2_with fail
            gi_wp2
            have hfin : ∃ w3, w3 = (w2.setCell ⟨w1.heap.size + 1, 0, none⟩ (.int .u32 (bits .or .u32 (x : Int) (2 ^ (31 - e) % 4294967296)))).drew := ⟨_, rfl⟩
            obtain ⟨w3, hw3⟩ := hfin
            rw [← hw3]
            obtain ⟨hL, hH, hbl, hLs⟩ := HL.out
            have hs := (SetB.self hH).store (o := 0) (lt_of_blk hH) (.int .u32 (bits .or .u32 (x : Int) (2 ^ (31 - e) % 4294967296)))
            rw [or_kid H0.out.2.2.2.2.2.2.2.2 (by omega)] at hs hw3
            have hL3 : w3.heap[w1.heap.size]? = some (.cells #[.int .u32 x, .int .i64 ((e : Int) + 1)] 58) := by rw [hw3]; exact (hs.other (by omega)).trans hL
            have hH3 : w3.heap[w1.heap.size + 1]? = some (.cells #[.int .u32 (kid x e true : Nat), .int .i64 ((e : Int) + 1)] 58) := by rw [hw3]; exact hs.at (lt_of_blk hH)
            have hb3 : Below w1.heap.size w1 w3 := by rw [hw3]; exact hbl.trans (bdn (hs.below (by simp)) 1)
            clear hw3 hs hL hH hbl d0 f0 HL
            obtain ⟨_, hr0, hk0, _, hJ0, _, _, hcap0, _⟩ := H0.out
            have hk3' := Kp.of_below hr0.box hb3
            have hr3 := hr0.kp hk3'
            have hJ3 := abides_below HJ.out.1 hJ0 hb3
            have hk3 := hk0.trans hk3'
            have hcap3 := hcap0
            have hS3 := Safe.new hr0.box hr0.fresh hb3 (by simp) hH3
            clear hk3' hr0 hk0 hJ0 hcap0 hb3
            generalize hphe : ((kid x e true : Nat) : Int) = ph at hH3
            have hph : (N (kid x e true) (e + 1)).isSome → ph = ((kid x e true : Nat) : Int) ∧ (e : Int) + 1 = ((e + 1 : Nat) : Int) := fun _ => ⟨hphe.symm, rfl⟩
            clear hphe
            have HR3 := Lib.hid (And.intro hr3 (And.intro hJ3 (And.intro hk3 (And.intro hcap3 hph))))
            have hkeyc : ∀ c, Key (kid x e c) (e + 1) ∨ 32 < e + 1 := fun c => by
              by_cases h : e ≤ 31
              · exact .inl (H0.out.2.2.2.2.2.2.2.2.kid h c)
              · exact .inr (by omega)
            have HKC := Lib.hid hkeyc
            have ih0 := Lib.hid (HIH.out (kid x e false) (e + 1) x ((e : Int) + 1) (pre ++ [(x, e)]) w3.drew m (by omega) (hr3.kp (Kp.of_below hr3.box (Below.drew (Below.refl _ _)))) (hkeyc false) (fun _ => ⟨rfl, rfl⟩) (abides_below HJ.out.1 hJ3 (Below.drew (Below.refl _ _))) (by simp only [List.length_append] at hcap3 ⊢; omega))
            obtain ⟨c0, c1, -, -, -⟩ := nodeM hr3.trie H0.out.2.2.2.2.2.2.1
            have l0 : w3.cell? ⟨w1.heap.size, 0, none⟩ = some (.int .u32 x) := cell_of hL3 rfl
            have l1 : w3.cell? ⟨w1.heap.size, 1, none⟩ = some (.int .i64 ((e : Int) + 1)) := cell_of hL3 rfl
            have HH3 := Lib.hid (And.intro hH3 hS3)
            clear hr3 hJ3 hk3 hcap3 hkeyc hph hL3 hH3 hS3 c1
            unfold ptr at c0 ih0
            refine wpIn_wide.2 ?_
            refine wp_region_pieces (by kernel_rfl) ?_
            refine wpAny_seg (fun w' => w' = w3.drew) [0, 1, 2, 3, 4, 5, 6] (g := 12) rfl (by kernel_rfl) rfl ?_
            simp only [pick, List.getD_cons_zero, List.getD_cons_succ]
            iterate 7 ((with_reducible refine wpQuiet_step (fun K hK => ?_)); go_simp; (with_reducible refine hK _ ?_); clear hK K)
            refine wpQuiet_nil ?_
            rintro _ rfl
            clear c0 l0 l1
            refine wpAny_one 7 (by kernel_rfl) ?_
            simp only [pick, List.getD_cons_zero, List.getD_cons_succ]
            go_wp2_with (go_at_call 197; refine (callsIn_wide.1 ih0.out).mono ?_; rintro e4 w4 (⟨rfl, hJ4, hk4⟩ | ⟨rfl, q, hq, hx4⟩))
            · obtain ⟨hr3, hJ3, hk3, hcap3, hph⟩ := HR3.out
              obtain ⟨hH3, hS3⟩ := HH3.out
              have hkd := Kp.of_below hr3.box (Below.drew (Below.refl w3.heap.size w3))
              have hk34 := hkd.trans hk4
              have hr4 := hr3.kp hk34
              obtain ⟨-, c1, -, -, -⟩ := nodeM hr4.trie H0.out.2.2.2.2.2.2.1
              have hH4 := (hS3.kp hk34).2.trans hH3
              have l0 : w4.cell? ⟨w1.heap.size + 1, 0, none⟩ = some (.int .u32 ph) := cell_of hH4 rfl
              have l1 : w4.cell? ⟨w1.heap.size + 1, 1, none⟩ = some (.int .i64 ((e : Int) + 1)) := cell_of hH4 rfl
              have ih1 := Lib.hid (HIH.out (kid x e true) (e + 1) ph ((e : Int) + 1) ((pre ++ [(x, e)]) ++ trav M f (kid x e false) (e + 1)) w4 m (by omega) hr4 (HKC.out true) hph hJ4 (by simp only [List.length_append] at hcap3 ⊢; omega))
              have HK4 := Lib.hid (hk3.trans hk34)
              clear hr3 hJ3 hk3 hcap3 hph hH3 hS3 hkd hk34 hr4 hH4 hJ4 hk4 ih0 HR3 HH3 HIH
              unfold ptr at c1 ih1
              refine wpAny_one 8 (by kernel_rfl) ?_
              simp only [pick, List.getD_cons_zero, List.getD_cons_succ]
              go_wp2_with fail
              refine wpAny_seg (fun w' => w' = w4) [9, 10, 11, 12, 13, 14, 15] (g := 3) rfl (by kernel_rfl) rfl ?_
              simp only [pick, List.getD_cons_zero, List.getD_cons_succ]
              iterate 7 ((with_reducible refine wpQuiet_step (fun K hK => ?_)); go_simp; (with_reducible refine hK _ ?_); clear hK K)
              refine wpQuiet_nil ?_
              rintro _ rfl
              clear c1 l0 l1
              refine wpAny_one 16 (by kernel_rfl) ?_
              simp only [pick, List.getD_cons_zero, List.getD_cons_succ]
              go_wp2_with (go_at_call 197; refine (callsIn_wide.1 ih1.out).mono ?_; rintro e5 w5 (⟨rfl, hJ5, hk5⟩ | ⟨rfl, q, hq, hx5⟩))
              · refine wpAny_one 17 (by kernel_rfl) ?_
                simp only [pick, List.getD_cons_zero, List.getD_cons_succ]
                go_wp2_with fail
                refine wpAny_one 18 (by kernel_rfl) ?_
                simp only [pick, List.getD_cons_zero, List.getD_cons_succ]
                go_wp2_with fail
                refine wpAny_done (by kernel_rfl) ?_ _
                gi_wp2
                go_ret
                exact .inl ⟨rfl, by simpa [List.append_assoc] using hJ5, HK4.out.trans hk5⟩
              · refine wpAny_one 17 (by kernel_rfl) ?_
                simp only [pick, List.getD_cons_zero, List.getD_cons_succ]
                go_wp2_with fail
                refine wpAny_one 18 (by kernel_rfl) ?_
                simp only [pick, List.getD_cons_zero, List.getD_cons_succ]
                go_wp2_with fail
                refine wpAny_done (by kernel_rfl) ?_ _
                gi_wp2
                go_ret
                obtain ⟨t, ht⟩ := hq
                exact .inr ⟨rfl, (x, e) :: (trav M f (kid x e false) (e + 1) ++ q), ⟨t, by simp [← ht]⟩, by simpa [List.append_assoc] using hx5⟩
            · clear ih0 HR3 HH3 HIH
              refine wpAny_one 8 (by kernel_rfl) ?_
              simp only [pick, List.getD_cons_zero, List.getD_cons_succ]
              go_wp2_with fail
              refine wpAny_seg (fun w' => w' = w4) [9, 10, 11, 12, 13, 14, 15] (g := 3) rfl (by kernel_rfl) rfl ?_
              simp only [pick, List.getD_cons_zero, List.getD_cons_succ]
              iterate 7 ((with_reducible refine wpQuiet_step (fun K hK => ?_)); go_simp; (with_reducible refine hK _ ?_); clear hK K)
              refine wpQuiet_nil ?_
              rintro _ rfl
              refine wpAny_one 16 (by kernel_rfl) ?_
              simp only [pick, List.getD_cons_zero, List.getD_cons_succ]
              go_wp2_with fail
              refine wpAny_one 17 (by kernel_rfl) ?_
              simp only [pick, List.getD_cons_zero, List.getD_cons_succ]
              go_wp2_with fail
              refine wpAny_one 18 (by kernel_rfl) ?_
              simp only [pick, List.getD_cons_zero, List.getD_cons_succ]
              go_wp2_with fail
              refine wpAny_done (by kernel_rfl) ?_ _
              gi_wp2
              go_ret
              obtain ⟨t, ht⟩ := hq
              exact .inr ⟨rfl, (x, e) :: q, ⟨t ++ trav M f (kid x e true) (e + 1), by simp [← ht, List.append_assoc]⟩, by simpa [List.append_assoc] using hx4⟩


          · go_ret
            exact .inr ⟨rfl, [(x, e)], ⟨_, rfl⟩, hx1⟩
        · have h32' : ¬ ((e : Int) < 32) := by omega
          have hee : IntKind.i64.wrap ((e : Int) + 1) = (e : Int) + 1 := IntWalk.i64_in _ (by omega)
          refine callsIn_of_wp Tryz.func197 rfl trivial ?_ rfl
          simp only [Tryz.ntmps197, List.size_toArray, List.length_cons, List.length_nil, Nat.reduceAdd, Nat.reduceSub, Array.replicate_succ, Array.replicate_zero, List.push_toArray, List.append_toArray, List.nil_append, List.cons_append]
          gi_wp2_with ((try refine ⟨hdd _, ?_⟩); refine hR2.mono ?_; clear hR2; rintro e1 w1 (⟨rfl, hlt1, r0, r1, hpb, hr0, hk0, hS0, hJ0⟩ | ⟨rfl, hx1⟩))
          · have H0 := Lib.hid (And.intro H1.out.1 (And.intro hr0 (And.intro hk0 (And.intro hS0 (And.intro hJ0 (And.intro hpb (And.intro H1.out.2.1 (And.intro H1.out.2.2.1 H1.out.2.2.2))))))))
            clear hpb hr0 hk0 hS0 hJ0 hy q0 q1 c3
            have hL : ((w1.alloc (.cells #[.int .u32 x, .int .i64 ((e : Int) + 1)] 58)).alloc (.cells #[.int .u32 x, .int .i64 ((e : Int) + 1)] 58)).heap[w1.heap.size]? = some (.cells #[.int .u32 x, .int .i64 ((e : Int) + 1)] 58) := hold (hnewAt (by simp))
            have hH : ((w1.alloc (.cells #[.int .u32 x, .int .i64 ((e : Int) + 1)] 58)).alloc (.cells #[.int .u32 x, .int .i64 ((e : Int) + 1)] 58)).heap[w1.heap.size + 1]? = some (.cells #[.int .u32 x, .int .i64 ((e : Int) + 1)] 58) := hnewAt (by simp)
            have hbl : Below w1.heap.size w1 ((w1.alloc (.cells #[.int .u32 x, .int .i64 ((e : Int) + 1)] 58)).alloc (.cells #[.int .u32 x, .int .i64 ((e : Int) + 1)] 58)) := ((Below.refl _ _).alloc (Nat.le_refl _) _).alloc (by simp) _
            have hLs : w1.heap.size = w1.heap.size := by simp
            generalize (w1.alloc (.cells #[.int .u32 x, .int .i64 ((e : Int) + 1)] 58)).alloc (.cells #[.int .u32 x, .int .i64 ((e : Int) + 1)] 58) = w3 at hL hH hbl ⊢
            have hL3 := hL
            have hH3 := hH
            have hb3 := hbl
            clear hL hH hbl
            obtain ⟨_, hr0, hk0, _, hJ0, _, _, hcap0, _⟩ := H0.out
            have hk3' := Kp.of_below hr0.box hb3
            have hr3 := hr0.kp hk3'
            have hJ3 := abides_below HJ.out.1 hJ0 hb3
            have hk3 := hk0.trans hk3'
            have hcap3 := hcap0
            have hS3 := Safe.new hr0.box hr0.fresh hb3 (by simp) hH3
            clear hk3' hr0 hk0 hJ0 hcap0 hb3
            have hno : N (kid x e true) (e + 1) = none := hr3.trie.none33 _ (by omega)
            have hph : (N (kid x e true) (e + 1)).isSome → (x : Int) = ((kid x e true : Nat) : Int) ∧ (e : Int) + 1 = ((e + 1 : Nat) : Int) := fun hs => by rw [hno] at hs; cases hs
            clear hno
            generalize hphe : (x : Int) = ph at hH3 hph
            clear hphe
            have HR3 := Lib.hid (And.intro hr3 (And.intro hJ3 (And.intro hk3 (And.intro hcap3 hph))))
            have hkeyc : ∀ c, Key (kid x e c) (e + 1) ∨ 32 < e + 1 := fun c => by
              by_cases h : e ≤ 31
              · exact .inl (H0.out.2.2.2.2.2.2.2.2.kid h c)
              · exact .inr (by omega)
            have HKC := Lib.hid hkeyc
            have ih0 := Lib.hid (HIH.out (kid x e false) (e + 1) x ((e : Int) + 1) (pre ++ [(x, e)]) w3.drew m (by omega) (hr3.kp (Kp.of_below hr3.box (Below.drew (Below.refl _ _)))) (hkeyc false) (fun _ => ⟨rfl, rfl⟩) (abides_below HJ.out.1 hJ3 (Below.drew (Below.refl _ _))) (by simp only [List.length_append] at hcap3 ⊢; omega))
            obtain ⟨c0, c1, -, -, -⟩ := nodeM hr3.trie H0.out.2.2.2.2.2.2.1
            have l0 : w3.cell? ⟨w1.heap.size, 0, none⟩ = some (.int .u32 x) := cell_of hL3 rfl
            have l1 : w3.cell? ⟨w1.heap.size, 1, none⟩ = some (.int .i64 ((e : Int) + 1)) := cell_of hL3 rfl
            have HH3 := Lib.hid (And.intro hH3 hS3)
            clear hr3 hJ3 hk3 hcap3 hkeyc hph hL3 hH3 hS3 c1
            unfold ptr at c0 ih0
            refine wpIn_wide.2 ?_
            refine wp_region_pieces (by kernel_rfl) ?_
            refine wpAny_seg (fun w' => w' = w3.drew) [0, 1, 2, 3, 4, 5, 6] (g := 12) rfl (by kernel_rfl) rfl ?_
            simp only [pick, List.getD_cons_zero, List.getD_cons_succ]
            iterate 7 ((with_reducible refine wpQuiet_step (fun K hK => ?_)); go_simp; (with_reducible refine hK _ ?_); clear hK K)
            refine wpQuiet_nil ?_
            rintro _ rfl
            clear c0 l0 l1
            refine wpAny_one 7 (by kernel_rfl) ?_
            simp only [pick, List.getD_cons_zero, List.getD_cons_succ]
            go_wp2_with (go_at_call 197; refine (callsIn_wide.1 ih0.out).mono ?_; rintro e4 w4 (⟨rfl, hJ4, hk4⟩ | ⟨rfl, q, hq, hx4⟩))
            · obtain ⟨hr3, hJ3, hk3, hcap3, hph⟩ := HR3.out
              obtain ⟨hH3, hS3⟩ := HH3.out
              have hkd := Kp.of_below hr3.box (Below.drew (Below.refl w3.heap.size w3))
              have hk34 := hkd.trans hk4
              have hr4 := hr3.kp hk34
              obtain ⟨-, c1, -, -, -⟩ := nodeM hr4.trie H0.out.2.2.2.2.2.2.1
              have hH4 := (hS3.kp hk34).2.trans hH3
              have l0 : w4.cell? ⟨w1.heap.size + 1, 0, none⟩ = some (.int .u32 ph) := cell_of hH4 rfl
              have l1 : w4.cell? ⟨w1.heap.size + 1, 1, none⟩ = some (.int .i64 ((e : Int) + 1)) := cell_of hH4 rfl
              have ih1 := Lib.hid (HIH.out (kid x e true) (e + 1) ph ((e : Int) + 1) ((pre ++ [(x, e)]) ++ trav M f (kid x e false) (e + 1)) w4 m (by omega) hr4 (HKC.out true) hph hJ4 (by simp only [List.length_append] at hcap3 ⊢; omega))
              have HK4 := Lib.hid (hk3.trans hk34)
              clear hr3 hJ3 hk3 hcap3 hph hH3 hS3 hkd hk34 hr4 hH4 hJ4 hk4 ih0 HR3 HH3 HIH
              unfold ptr at c1 ih1
              refine wpAny_one 8 (by kernel_rfl) ?_
              simp only [pick, List.getD_cons_zero, List.getD_cons_succ]
              go_wp2_with fail
              refine wpAny_seg (fun w' => w' = w4) [9, 10, 11, 12, 13, 14, 15] (g := 3) rfl (by kernel_rfl) rfl ?_
              simp only [pick, List.getD_cons_zero, List.getD_cons_succ]
              iterate 7 ((with_reducible refine wpQuiet_step (fun K hK => ?_)); go_simp; (with_reducible refine hK _ ?_); clear hK K)
              refine wpQuiet_nil ?_
              rintro _ rfl
              clear c1 l0 l1
              refine wpAny_one 16 (by kernel_rfl) ?_
              simp only [pick, List.getD_cons_zero, List.getD_cons_succ]
              go_wp2_with (go_at_call 197; refine (callsIn_wide.1 ih1.out).mono ?_; rintro e5 w5 (⟨rfl, hJ5, hk5⟩ | ⟨rfl, q, hq, hx5⟩))
              · refine wpAny_one 17 (by kernel_rfl) ?_
                simp only [pick, List.getD_cons_zero, List.getD_cons_succ]
                go_wp2_with fail
                refine wpAny_one 18 (by kernel_rfl) ?_
                simp only [pick, List.getD_cons_zero, List.getD_cons_succ]
                go_wp2_with fail
                refine wpAny_done (by kernel_rfl) ?_ _
                gi_wp2
                go_ret
                exact .inl ⟨rfl, by simpa [List.append_assoc] using hJ5, HK4.out.trans hk5⟩
              · refine wpAny_one 17 (by kernel_rfl) ?_
                simp only [pick, List.getD_cons_zero, List.getD_cons_succ]
                go_wp2_with fail
                refine wpAny_one 18 (by kernel_rfl) ?_
                simp only [pick, List.getD_cons_zero, List.getD_cons_succ]
                go_wp2_with fail
                refine wpAny_done (by kernel_rfl) ?_ _
                gi_wp2
                go_ret
                obtain ⟨t, ht⟩ := hq
                exact .inr ⟨rfl, (x, e) :: (trav M f (kid x e false) (e + 1) ++ q), ⟨t, by simp [← ht]⟩, by simpa [List.append_assoc] using hx5⟩
            · clear ih0 HR3 HH3 HIH
              refine wpAny_one 8 (by kernel_rfl) ?_
              simp only [pick, List.getD_cons_zero, List.getD_cons_succ]
              go_wp2_with fail
              refine wpAny_seg (fun w' => w' = w4) [9, 10, 11, 12, 13, 14, 15] (g := 3) rfl (by kernel_rfl) rfl ?_
              simp only [pick, List.getD_cons_zero, List.getD_cons_succ]
              iterate 7 ((with_reducible refine wpQuiet_step (fun K hK => ?_)); go_simp; (with_reducible refine hK _ ?_); clear hK K)
              refine wpQuiet_nil ?_
              rintro _ rfl
              refine wpAny_one 16 (by kernel_rfl) ?_
              simp only [pick, List.getD_cons_zero, List.getD_cons_succ]
              go_wp2_with fail
              refine wpAny_one 17 (by kernel_rfl) ?_
              simp only [pick, List.getD_cons_zero, List.getD_cons_succ]
              go_wp2_with fail
              refine wpAny_one 18 (by kernel_rfl) ?_
              simp only [pick, List.getD_cons_zero, List.getD_cons_succ]
              go_wp2_with fail
              refine wpAny_done (by kernel_rfl) ?_ _
              gi_wp2
              go_ret
              obtain ⟨t, ht⟩ := hq
              exact .inr ⟨rfl, (x, e) :: q, ⟨t ++ trav M f (kid x e true) (e + 1), by simp [← ht, List.append_assoc]⟩, by simpa [List.append_assoc] using hx4⟩


          · go_ret
            exact .inr ⟨rfl, [(x, e)], ⟨_, rfl⟩, hx1⟩
end Go.Proofs.YtadoflcomienoaaGreat.Tm
/- Slices of prefixes. -/
namespace Go.Proofs.YtadoflcomienoaaGreat.Tm
open Go.RowKit

def RP : Rep (Nat × Nat) := ⟨58, 2, by decide, fun x => [.int .u32 x.1, .int .i64 x.2], fun _ => rfl, fun _ => rfl⟩
theorem info32 : (Tryz.prog.info? 58).map (fun i => (i.zero, i.size, i.bytes)) = some (some (.agg #[.int .u32 0, .int .i64 0]), 2, 16) := by kernel_rfl
theorem cell_two_new (w : World) (x y : Value) (t : TypeId) : ∀ j u, [x, y][j]? = some u → (w.alloc (.cells #[x, y] t)).cell? ((⟨w.heap.size, 0, none⟩ : Addr).add j) = some u := by
  intro j u hj
  have hadd : (⟨w.heap.size, 0, none⟩ : Addr).add j = ⟨w.heap.size, j, none⟩ := by unfold Addr.add; split <;> simp_all
  rw [hadd]
  exact cell_of (hnew _ _) (by simpa using hj)
end Go.Proofs.YtadoflcomienoaaGreat.Tm
/- all: the iterator's contract. -/
namespace Go.Proofs.YtadoflcomienoaaGreat.Tm
open Go.RowKit Go.Shelf
attribute [local go_sem] Oper.semAt_some

theorem allM_any (p : Option Addr) (a : Nat) (m : Int) (w : World) : Calls Tryz.prog 158 #[.pointer p, pfx a m] w fun e w' => e = .returned (.func (.func 196) #[] #[.pointer (some ⟨w.heap.size, 0, none⟩), .pointer (some ⟨w.heap.size + 1, 0, none⟩)]) ∧ w' = (w.alloc (.cells #[.pointer p] 114)).alloc (.cells #[.int .u32 a, .int .i64 m] 58) := by
  unfold pfx
  go_enter Tryz.func158, Tryz.ntmps158
  go_wp2_with fail
  go_ret
  exact ⟨rfl, rfl⟩
/-- what a prefix holds, of a trie -/
def heldM (M : Nat → Nat → Option (Option Nat)) (a : Nat) (m : Int) : List (Nat × Nat) := if okP a m then trav M 33 a m.toNat else []
set_option maxRecDepth 100000 in
set_option maxHeartbeats 4000000 in
theorem all1M_gen (l B : Nat) (J Jx : List (Nat × Nat) → World → Prop) (a : Nat) (m : Int) (p : Option Addr) (o : Option Nat) (L : List (Nat × Nat)) (W : World) (t1 t2 : Nat) (ht1 : W.heap[t1]? = some (.cells #[.pointer p] 114)) (ht2 : W.heap[t2]? = some (.cells #[.int .u32 a, .int .i64 m] 58))
    (hF : ∀ W', Below W.heap.size W W' → Calls Tryz.prog 119 #[.pointer p, pfx a m] W' fun e W2 => e = .returned (ptr o) ∧ Below W'.heap.size W' W2)
    (hW : ∀ W', Below W.heap.size W W' → CallsIn Fence.wide 0 Tryz.prog 197 #[ptr o, .agg #[.int .u32 a, .int .i64 m], .func (.yield l) #[] #[]] W' fun e W2 => WalkRM B J Jx [] L W' e W2) :
    Calls Tryz.prog 196 #[.func (.yield l) #[] #[], .pointer (some ⟨t1, 0, none⟩), .pointer (some ⟨t2, 0, none⟩)] W fun e W' => (∃ v, e = .returned v) ∧ ((∃ ys, ys = L ∧ J ys W') ∨ (∃ pre, pre <+: L ∧ Jx pre W')) := by
  have HF := Lib.hid hF
  have HW := Lib.hid hW
  have l1 := lt_of_blk ht1
  have l2 := lt_of_blk ht2
  have H1 := Lib.hid (And.intro ht1 ht2)
  clear hF hW ht1 ht2
  unfold pfx at HF
  unfold ptr at HF HW
  go_enter Tryz.func196, Tryz.ntmps196
  go_wp2_with fail
  refine wp_region_quiet_tail (fun w' => Below W.heap.size W w') 5 (by kernel_rfl) (by kernel_rfl) (Below.drew (Below.refl _ _)) ?_
  simp only [List.take_succ_cons, List.take_zero, List.drop_succ_cons, List.drop_zero]
  iterate 5 ((with_reducible refine wpQuiet_step (fun K hK => ?_)); go_simp; first | ((with_reducible refine hK _ ?_); clear hK K) | (apply Exists.intro; (with_reducible refine ⟨fun w' hw' => ?_, hK _ ?_⟩); first | (go_at_call 119; (with_reducible refine (HF.out w' hw').mono ?_); rintro e w2 ⟨rfl, hb⟩; exact ⟨rfl, hw'.trans (hb.mono hw'.size)⟩) | (have b1 := (hw'.block t1 l1).trans H1.out.1; have b2 := (hw'.block t2 l2).trans H1.out.2; have d0 : w'.cell? ⟨t1, 0, none⟩ = some (.pointer p) := cell_of b1 rfl; have d1 : w'.cell? ⟨t2, 0, none⟩ = some (.int .u32 a) := cell_of b2 rfl; have d2 : w'.cell? ⟨t2, 1, none⟩ = some (.int .i64 m) := cell_of b2 rfl; clear b1 b2; go_simp; first | exact rfl | exact ⟨rfl, rfl⟩); clear hK K))
  refine wpQuiet_nil ?_
  intro wq hq
  have HQ := Lib.hid hq
  clear hq
  go_wp2_with (go_at_call 197; refine (callsIn_wide.1 (HW.out wq HQ.out)).mono ?_; rintro e4 w4 (⟨rfl, hJ4, hk4⟩ | ⟨rfl, q, hq, hx4⟩))
  · go_end0
    exact ⟨⟨_, rfl⟩, .inl ⟨_, rfl, by simpa using hJ4⟩⟩
  · go_end0
    exact ⟨⟨_, rfl⟩, .inr ⟨q, hq, by simpa using hx4⟩⟩
/-- all HANDS BACK what yields what a prefix holds -/
theorem allM_stops (B : Nat) (a : Nat) (m : Int) (ha : a < 4294967296) (b n : Nat) (N : Nat → Nat → Option Nat) (M : Nat → Nat → Option (Option Nat)) (w : World) (t1 t2 : Nat) (ht1 : w.heap[t1]? = some (.cells #[.pointer (some ⟨b, 0, none⟩)] 114)) (ht2 : w.heap[t2]? = some (.cells #[.int .u32 a, .int .i64 m] 58)) (hr : RdyM B w b N n M) (k : Nat) :
    SeqStopsK Fence.wide k Tryz.prog 196 #[.pointer (some ⟨t1, 0, none⟩), .pointer (some ⟨t2, 0, none⟩)] (fun x : Nat × Nat => #[pfx x.1 x.2]) (Kp B) (fun ys => ys = heldM M a m) (fun pre => pre <+: heldM M a m) (heldM M a m).length w := fun l J Jx W hW hJ _ hY h0 => by
  have hrW := hr.kp (Kp.of_below hr.box hW)
  refine callsIn_wide.2 (all1M_gen l B J Jx a m _ (if okP a m then N a m.toNat else none) (heldM M a m) W t1 t2 ((hW.block _ (lt_of_blk ht1)).trans ht1) ((hW.block _ (lt_of_blk ht2)).trans ht2) (fun W' hb => findM_any (hrW.kp (Kp.of_below hrW.box hb)).trie a m ha) (fun W' hb => ?_))
  have hr' := hrW.kp (Kp.of_below hrW.box hb)
  unfold heldM at hY ⊢
  cases hok : okP a m with
  | false => exact walkM_nil l _ B J Jx _ hJ a m rfl [] W' hr'.box (abides_below hJ h0 hb) 0
  | true =>
    obtain ⟨h1, h2, h3⟩ := okP_iff.1 hok
    rw [hok] at hY
    simp only [if_true] at hY ⊢
    refine walkM_in l B J Jx _ hJ (trav M 33 a m.toNat).length b n N M (fun k' pre x W1 hj hl => YieldAt.anyDepth rfl k' (hY pre x W1 hj hl)) 33 a m.toNat a m [] W' 0 (by omega) hr' (.inl ⟨by omega, h3, ha⟩) (fun _ => ⟨rfl, by omega⟩) (abides_below hJ h0 hb) (by simp)
end Go.Proofs.YtadoflcomienoaaGreat.Tm
/- Within, Prefixes. -/
namespace Go.Proofs.YtadoflcomienoaaGreat.Tm
open Go.RowKit Go.Shelf
attribute [local go_sem] Oper.semAt_some

set_option maxRecDepth 100000 in
set_option maxHeartbeats 4000000 in
theorem withinM_gen (p : Option Addr) (a : Nat) (m : Int) (L : List (Nat × Nat)) (hL : L.length ≤ 4294967296) (w : World)
    (hS : ∀ W0, W0 = ((((w.alloc (.cells #[.int .u32 a, .int .i64 m] 58)).alloc (.cells #[.slice none 0 0] 67)).alloc (.cells #[.pointer p] 114)).alloc (.cells #[.int .u32 a, .int .i64 m] 58)) → ∀ k, SeqStopsK Fence.wide k Tryz.prog 196 #[.pointer (some ⟨w.heap.size + 1 + 1, 0, none⟩), .pointer (some ⟨w.heap.size + 1 + 1 + 1, 0, none⟩)] (fun x : Nat × Nat => #[pfx x.1 x.2]) (Kp (w.heap.size + 1)) (fun ys => ys = L) (fun pre => pre <+: L) L.length W0) :
    CallsIn Fence.wide 5 Tryz.prog 131 #[.pointer p, pfx a m] w fun e w' => ∃ v, e = .returned v ∧ RP.Own w' w.heap.size v L ∧ Below w.heap.size w w' := by
  have h1 : 1 ≤ 5 := by omega
  have HA := Lib.hid (allM_any p a m)
  unfold pfx at HA ⊢
  obtain ⟨i0, hi, hz0, hz1, hz2⟩ := info_parts info32
  refine callsIn_of_wp_marks Tryz.func131 rfl trivial ?_ rfl
  simp only [Tryz.ntmps131, List.size_toArray, List.length_cons, List.length_nil, Nat.reduceAdd, Nat.reduceSub, Array.replicate_succ, Array.replicate_zero, List.push_toArray, List.append_toArray, List.nil_append, List.cons_append]
  gi_wp2_with (refine ⟨trivial, ?_⟩; gi_at_call 158; refine (callsIn_wide.2 (HA.out _)).mono ?_; rintro e w' ⟨rfl, rfl⟩)
  have hB0 : Below w.heap.size w ((((w.alloc (.cells #[.int .u32 a, .int .i64 m] 58)).alloc (.cells #[.slice none 0 0] 67)).alloc (.cells #[.pointer p] 114)).alloc (.cells #[.int .u32 a, .int .i64 m] 58)) := ((((Below.refl _ w).alloc (Nat.le_refl _) _).alloc (by simp) _).alloc (by simp; omega) _).alloc (by simp; omega) _
  have bO : Boxed ((((w.alloc (.cells #[.int .u32 a, .int .i64 m] 58)).alloc (.cells #[.slice none 0 0] 67)).alloc (.cells #[.pointer p] 114)).alloc (.cells #[.int .u32 a, .int .i64 m] 58)) (w.heap.size + 1) 67 (.slice none 0 0) := hold (hold (hnewAt (by simp)))
  have hsz : ((((w.alloc (.cells #[.int .u32 a, .int .i64 m] 58)).alloc (.cells #[.slice none 0 0] 67)).alloc (.cells #[.pointer p] 114)).alloc (.cells #[.int .u32 a, .int .i64 m] 58)).heap.size = w.heap.size + 4 := by simp
  have hS1 := hS _ rfl
  generalize (((w.alloc (.cells #[.int .u32 a, .int .i64 m] 58)).alloc (.cells #[.slice none 0 0] 67)).alloc (.cells #[.pointer p] 114)).alloc (.cells #[.int .u32 a, .int .i64 m] 58) = W0 at hB0 bO hsz hS1 ⊢
  clear hS HA
  refine wpIn_rangeFunc_ownH rfl h1 (gf := 196) (lb := #[.pointer (some ⟨w.heap.size + 1 + 1, 0, none⟩), .pointer (some ⟨w.heap.size + 1 + 1 + 1, 0, none⟩)]) rfl trivial (enters_of Tryz.func196 (by kernel_rfl) rfl)
    (hS1 4) Kp.trans (fun W l o o' hl h hc _ => Kp.putObj o' (by omega) h hc) (Below.refl _ _) (fun _ => rfl)
    (fun pre W => (∃ v, Boxed W (w.heap.size + 1) 67 v ∧ W.ownsRow w.heap.size 58 2 v pre.length (RP.flat pre)) ∧ Below w.heap.size w W)
    (fun _ _ _ => False)
    (OwnFrom.and (Own.from (fun s X Y row hs hg hr => by
      obtain ⟨v, h1, h2, -⟩ := holdsRow_own w.heap.size (w.heap.size + 1) 67 58 2 (fun pre : List (Nat × Nat) => pre.length) (fun pre => RP.flat pre) (fun _ _ => True) s X Y row (by obtain ⟨v, h1, h2⟩ := hs; exact ⟨v, h1, h2, trivial⟩) hg hr
      exact ⟨v, h1, h2⟩) _) (ownFrom_below (Nat.le_refl _) (by omega)))
    (fun _ _ _ _ _ hs _ _ => hs)
    ⟨⟨_, bO, World.ownsRow_nil _ _ _ _⟩, hB0⟩
    (fun x a' W => ∃ Bx, W.heap[Bx]? = some (.cells #[.int .u32 x.1, .int .i64 x.2] 58) ∧ a' = { tmps := #[.pointer p, .agg #[.int .u32 a, .int .i64 m], undef, .pointer (some ⟨w.heap.size, 0, none⟩), .slice none 0 0, .pointer (some ⟨w.heap.size + 1, 0, none⟩), .pointer (some ⟨Bx, 0, none⟩), .pointer p, .agg #[.int .u32 a, .int .i64 m], .func (.func 196) #[] #[.pointer (some ⟨w.heap.size + 1 + 1, 0, none⟩), .pointer (some ⟨w.heap.size + 1 + 1 + 1, 0, none⟩)], .agg #[.int .u32 x.1, .int .i64 x.2], undef, undef, undef, undef, undef], defers := [] })
    (fun x a' _ X Y row hs hg hr => by
      obtain ⟨Bx, h1, h2⟩ := hs
      refine ⟨Bx, (hg.block Bx (lt_of_blk h1) (fun e => ?_)).trans h1, h2⟩
      obtain ⟨_, o, ho, hc⟩ := hr Bx e.symm
      rw [h1] at ho; cases ho; cases hc)
    ?assign ?body ?done ?stop
  case assign =>
    rintro l pre x W K ⟨⟨v, hv, hrow⟩, hB1⟩ hK
    dsimp only [pfx]
    gi_wp2
    exact hK _ _ ((KeepsOthers.alloc _ _).from _) (Kp.of_below hv.lt ((Below.refl _ W).alloc (Nat.le_refl _) _)) ⟨⟨v, hv.alloc _, hrow.alloc _⟩, hB1.alloc hB1.size _⟩ ⟨W.heap.size, hnew _ _, rfl⟩
  case body =>
    rintro l pre x a' W hl _ ⟨⟨v, hv, hrow⟩, hB1⟩ ⟨Bx, hbx, rfl⟩ hlt
    have hc := hv.cell
    have d0 : W.cell? ⟨Bx, 0, none⟩ = some (.int .u32 x.1) := cell_of hbx rfl
    have d1 : W.cell? ⟨Bx, 1, none⟩ = some (.int .i64 x.2) := cell_of hbx rfl
    have hsW := hB1.size
    clear hS1 hbx hB0 bO
    gi_wp2_with (gi_at_builtin; refine wpListIn_append_blk _ rfl _ _ 67 rfl w.heap.size 58 i0 (.agg #[.int .u32 0, .int .i64 0]) 2 16 Tryz.underlying67 hi hz0 hz1 hz2 rfl (by decide) _ _ _ rfl (hrow.alloc _) ⟨W.heap.size, 0, none⟩ 1 1 [.int .u32 x.1, .int .i64 x.2] rfl rfl (cell_two_new _ _ _ _) (by simp [Value.oneCell']) (by omega) (by unfold maxLen; omega) (by omega) (by simp; omega) ?_; intro v' w1 hown' hgrow hblk; obtain ⟨g', cap', rfl⟩ := ownsRow_succ hown'; obtain ⟨hv1, hv2, hr2, hk2, hb2⟩ := hv.appended (by decide) hrow hsW (by omega) hown' hgrow; have hkp := Kp.appended hv (by decide) hrow hown' hgrow hblk; have hc1 := hv1.cell; have hf1 := hv1.frozen)
    exact ⟨hk2.from _, hkp, ⟨⟨_, hv2, by rw [RP.flat_append, RP.flat_one, List.length_append]; exact hr2⟩, hB1.trans hb2⟩⟩
  case done =>
    rintro D zs W hD rfl ⟨⟨v, hv, hrow⟩, hB1⟩ hK
    have hc := hv.cell
    gi_wp2
    refine ⟨by simp, .inl ⟨_, _, rfl, run_takeDeferred hK, ?_⟩⟩
    exact ⟨_, results_tmp rfl _ _ _, v, rfl, ownsRow_putObj hrow _ hK rfl, hB1.trans (belowK_b (w := w) (Nat.le_refl _) W D _ _ (by omega) hK rfl rfl)⟩
  case stop =>
    rintro D c pre W _ _ h _
    exact h.elim
theorem withinM_any {w : World} {b n : Nat} {N : Nat → Nat → Option Nat} {M : Nat → Nat → Option (Option Nat)} (h : TrieM w b N n M) (a : Nat) (m : Int) (ha : a < 4294967296) (hL : (heldM M a m).length ≤ 4294967296) :
    Calls Tryz.prog 131 #[.pointer (some ⟨b, 0, none⟩), pfx a m] w fun e w' => ∃ v, e = .returned v ∧ RP.Own w' w.heap.size v (heldM M a m) ∧ Below w.heap.size w w' := by
  refine callsIn_wide.1 (withinM_gen (some ⟨b, 0, none⟩) a m _ hL w fun W0 hW0 k => ?_)
  have hbl : Below w.heap.size w W0 := by rw [hW0]; exact ((((Below.refl _ w).alloc (Nat.le_refl _) _).alloc (by simp) _).alloc (by simp; omega) _).alloc (by simp; omega) _
  have hO : Boxed W0 (w.heap.size + 1) 67 (.slice none 0 0) := by rw [hW0]; exact hold (hold (hnewAt (by simp)))
  refine allM_stops (w.heap.size + 1) a m ha b n N M W0 (w.heap.size + 1 + 1) (w.heap.size + 1 + 1 + 1) (by rw [hW0]; exact hold (hnewAt (by simp))) (by rw [hW0]; exact hnewAt (by simp)) ⟨h.below hbl, fun q hq => ⟨by have := h.lt hq; omega, ownAt_nil hO⟩, hO.lt, fun q hq => absurd hq (ownAt_nil hO)⟩ k
theorem prefixesM_any {w : World} {b n : Nat} {N : Nat → Nat → Option Nat} {M : Nat → Nat → Option (Option Nat)} (h : TrieM w b N n M) (hL : (heldM M 0 0).length ≤ 4294967296) :
    Calls Tryz.prog 85 #[.pointer (some ⟨b, 0, none⟩)] w fun e w' => ∃ v, e = .returned v ∧ RP.Own w' w.heap.size v (heldM M 0 0) ∧ Below w.heap.size w w' := by
  have HW := Lib.hid (withinM_any h 0 0 (by decide) hL)
  unfold pfx at HW
  clear h hL
  go_enter Tryz.func85, Tryz.ntmps85
  go_wp2_with (go_at_call 131; refine (HW.out).mono ?_; rintro e w1 ⟨v, rfl, hown, hb⟩)
  go_ret
  exact ⟨v, rfl, hown, hb⟩
end Go.Proofs.YtadoflcomienoaaGreat.Tm
