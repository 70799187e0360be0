/- walk: a recursive iterator. -/
import Derived.Test.YtdhebjeajdohoaaSe
import Derived.Test.YtdhebjeajdohoaaTl
import Derived.Test.YtdhebjeajdohoaaPc
import Derived.Test.YtdhebjeajdohoaaWk
import Derived.Shelf.Abstract
import Derived.OwnWalkIn
import Derived.TacticsInMore
import Derived.LoopNIn
import Derived.LoopIn
namespace Go.Proofs.Ytdhebjeajdohoaa
open Go.RowKit Go.Shelf
attribute [local go_sem] Oper.semAt_some

/-- yield, in every world of the iterator's -/
def YieldsS (l B N : Nat) (J Jx : List (Nat × Nat) → World → Prop) : Prop :=
  ∀ m pre (x : Nat × Nat) W, J pre W → pre.length < N → YieldAt Fence.wide m Try.prog l #[pfx x.1 x.2] W fun e W' =>
      (e = .returned (.bool true) ∧ J (pre ++ [x]) W' ∧ Kp B W W') ∨ (e = .returned (.bool false) ∧ Jx (pre ++ [x]) W')
def WalkRS (B : Nat) (J Jx : List (Nat × Nat) → World → Prop) (pre xs : List (Nat × Nat)) (W : World) (e : Ending) (W' : World) : Prop :=
  (e = .returned (.bool true) ∧ J (pre ++ xs) W' ∧ Kp B W W') ∨ (e = .returned (.bool false) ∧ ∃ q, q <+: xs ∧ Jx (pre ++ q) W')
abbrev RdyS := Rdy (α := ByteArray) 91 93 (Value.string) ByteArray.empty
set_option maxRecDepth 100000 in
set_option maxHeartbeats 4000000 in
theorem walkS_nil (l : Nat) (p : Value) (B : Nat) (J Jx : List (Nat × Nat) → World → Prop) (B1 : Nat) (hJ : AbidesFrom B1 J) (x1 x2 : Int) (hp : p = .agg #[.int .u32 x1, .int .i64 x2]) (pre : List (Nat × Nat)) (W : World) (hB : B < W.heap.size) (h0 : J pre W) (m : Nat) :
    CallsIn Fence.wide m Try.prog 62 #[.pointer none, p, .func (.yield l) #[] #[]] W fun e W' => WalkRS B J Jx pre [] W e W' := by
  subst hp
  refine callsIn_of_wp Try.func62 rfl trivial ?_ rfl
  simp only [Try.ntmps62, List.size_toArray, List.length_cons, List.length_nil, Nat.reduceAdd, Nat.reduceSub, Array.replicate_succ, Array.replicate_zero, List.push_toArray, List.append_toArray, List.nil_append, List.cons_append]
  gi_wp2
  go_ret
  exact .inl ⟨rfl, by simpa using abides_below hJ h0 ((Below.refl _ _).alloc (Nat.le_refl _) _), Kp.of_below hB ((Below.refl _ _).alloc (Nat.le_refl _) _)⟩
set_option maxRecDepth 100000 in
set_option maxHeartbeats 20000000 in
theorem walkS_in (l B : Nat) (J Jx : List (Nat × Nat) → World → Prop) (B1 : Nat) (hJ : AbidesFrom B1 J) (cap b n : Nat) (N : Nat → Nat → Option Nat) (M : Nat → Nat → Option ByteArray) (hY : YieldsS l B cap J Jx) :
    ∀ (f x e : Nat) (p1 p2 : Int) (pre : List (Nat × Nat)) (W : World) (m : Nat), 33 ≤ e + f → RdyS B W b N n M → (Key x e ∨ 32 < e) → ((N x e).isSome → p1 = x ∧ p2 = e) → J pre W → pre.length + (trav M f x e).length ≤ cap →
    CallsIn Fence.wide m Try.prog 62 #[ptr (N x e), .agg #[.int .u32 p1, .int .i64 p2], .func (.yield l) #[] #[]] W fun e' W' => WalkRS B J Jx pre (trav M f x e) W e' W' := by
  intro f
  induction f with
  | zero =>
    intro x e p1 p2 pre W m hf hr hkey hp h0 hcap
    rw [hr.trie.none33 _ (by omega)]
    exact walkS_nil l _ B J Jx B1 hJ p1 p2 rfl pre W hr.box h0 m
  | succ f ih =>
    intro x e p1 p2 pre W m hf hr hkey hp h0 hcap
    cases hN : N x e with
    | none =>
      rw [hr.trie.trav_none (f + 1) x e hkey hN]
      exact walkS_nil l _ B J Jx B1 hJ p1 p2 rfl pre W hr.box h0 m
    | some k =>
      obtain ⟨rfl, rfl⟩ := hp (by rw [hN]; rfl)
      have hK := hr.trie.key _ _ _ hN
      have hle := hK.le
      have hkl := hr.trie.lt (.inr ⟨_, _, hN⟩)
      have hb0 := ((Below.refl W.heap.size W).alloc (Nat.le_refl _) (.cells #[.int .u32 x, .int .i64 e] 32))
      have hpb := hnew W (.cells #[.int .u32 x, .int .i64 e] 32)
      have hS0 := Safe.new hr.box hr.fresh hb0 (Nat.le_refl _) hpb
      have hJ0 := abides_below hJ h0 hb0
      have hr0 := hr.kp (Kp.of_below hr.box hb0)
      have hk0 := Kp.of_below hr.box hb0
      have q0 : (W.alloc (.cells #[.int .u32 x, .int .i64 e] 32)).cell? ⟨W.heap.size, 0, none⟩ = some (.int .u32 x) := cell_of hpb rfl
      have q1 : (W.alloc (.cells #[.int .u32 x, .int .i64 e] 32)).cell? ⟨W.heap.size, 1, none⟩ = some (.int .i64 e) := cell_of hpb rfl
      obtain ⟨c0, c1, c2, c3, -⟩ := nodeS hr0.trie hN
      rw [trav] at hcap ⊢
      have HIH := Lib.hid ih
      have HJ := Lib.hid (And.intro hJ hY)
      have hdd : ∀ k : Nat, (Fence.wide.depth.isSome = true → 1 ≤ k) := fun k h => by cases h
      cases hM : M x e with
      | none =>
        rw [hM] at c3 hcap
        simp only [Option.isSome_none, Bool.false_eq_true, if_false, List.nil_append] at c3 hcap ⊢
        have H0 := Lib.hid (And.intro hr (And.intro hr0 (And.intro hk0 (And.intro hS0 (And.intro hJ0 (And.intro hpb (And.intro hN (And.intro hcap hK))))))))
        clear hr hr0 hk0 hS0 hJ0 hpb hN hcap ih hJ hY hp h0 hK hb0 c0 c1 c2 hM
        unfold ptr
        simp only [Option.map_some]
        refine callsIn_of_wp Try.func62 rfl trivial ?_ rfl
        simp only [Try.ntmps62, List.size_toArray, List.length_cons, List.length_nil, Nat.reduceAdd, Nat.reduceSub, Array.replicate_succ, Array.replicate_zero, List.push_toArray, List.append_toArray, List.nil_append, List.cons_append]
        by_cases h32 : e < 32
        · have h32' : (e : Int) < 32 := by omega
          have hee : IntKind.i64.wrap ((e : Int) + 1) = (e : Int) + 1 := IntWalk.i64_in _ (by omega)
          gi_wp2
          refine ⟨fun _ h => (by cases h), ?_⟩
          gi_wp2
          have hL : (((W.alloc (.cells #[.int .u32 x, .int .i64 e] 32)).alloc (.cells #[.int .u32 x, .int .i64 ((e : Int) + 1)] 32)).alloc (.cells #[.int .u32 x, .int .i64 ((e : Int) + 1)] 32)).heap[W.heap.size + 1]? = some (.cells #[.int .u32 x, .int .i64 ((e : Int) + 1)] 32) := hold (hnewAt (by simp))
          have hH : (((W.alloc (.cells #[.int .u32 x, .int .i64 e] 32)).alloc (.cells #[.int .u32 x, .int .i64 ((e : Int) + 1)] 32)).alloc (.cells #[.int .u32 x, .int .i64 ((e : Int) + 1)] 32)).heap[W.heap.size + 1 + 1]? = some (.cells #[.int .u32 x, .int .i64 ((e : Int) + 1)] 32) := hnewAt (by simp)
          have hbl : Below (W.alloc (.cells #[.int .u32 x, .int .i64 e] 32)).heap.size (W.alloc (.cells #[.int .u32 x, .int .i64 e] 32)) (((W.alloc (.cells #[.int .u32 x, .int .i64 e] 32)).alloc (.cells #[.int .u32 x, .int .i64 ((e : Int) + 1)] 32)).alloc (.cells #[.int .u32 x, .int .i64 ((e : Int) + 1)] 32)) := ((Below.refl _ _).alloc (Nat.le_refl _) _).alloc (by simp) _
          have hLs : (W.alloc (.cells #[.int .u32 x, .int .i64 e] 32)).heap.size = W.heap.size + 1 := by simp
          have q1' := (Below.cell hbl (p := ⟨W.heap.size, 1, none⟩) (by simp)).trans q1
          generalize ((W.alloc (.cells #[.int .u32 x, .int .i64 e] 32)).alloc (.cells #[.int .u32 x, .int .i64 ((e : Int) + 1)] 32)).alloc (.cells #[.int .u32 x, .int .i64 ((e : Int) + 1)] 32) = w2 at hL hH hbl q1' ⊢
          have d0 : w2.cell? ⟨W.heap.size + 1 + 1, 0, none⟩ = some (.int .u32 x) := cell_of hH rfl
          have f0 : w2.frozen? ⟨W.heap.size + 1 + 1, 0, none⟩ = false := free_of hH
          have HL := Lib.hid (And.intro hL (And.intro hH (And.intro hbl hLs)))
          have hw31 : IntKind.i64.wrap ((31 : Int) - e) = 31 - e := IntWalk.i64_in _ (by omega)
          have he31 : ¬ (31 < e) := by omega
          have hn31 : ¬ ((31 : Int) - e < 0) := by omega
          clear hL hH hbl hLs q0 q1
          refine wpIn_wide.2 ?_
          refine wp_region_quiet_tail (fun w' => w' = w2.drew) 8 (by kernel_rfl) (by kernel_rfl) rfl ?_
          simp only [List.take_succ_cons, List.take_zero, List.drop_succ_cons, List.drop_zero]
          iterate 8 ((with_reducible refine wpQuiet_step (fun K hK => ?_)); go_simp; (with_reducible refine hK _ ?_); clear hK K)
          refine wpQuiet_nil ?_
          rintro _ rfl
          clear q1'
          go_wp2_with fail
          gi_wp2
          have hfin : ∃ w3, w3 = (w2.setCell ⟨W.heap.size + 1 + 1, 0, none⟩ (.int .u32 (bits .or .u32 (x : Int) (2 ^ (31 - e) % 4294967296)))).drew := ⟨_, rfl⟩
          obtain ⟨w3, hw3⟩ := hfin
          rw [← hw3]
          obtain ⟨hL, hH, hbl, hLs⟩ := HL.out
          have hs := (SetB.self hH).store (o := 0) (lt_of_blk hH) (.int .u32 (bits .or .u32 (x : Int) (2 ^ (31 - e) % 4294967296)))
          rw [or_kid H0.out.2.2.2.2.2.2.2.2 (by omega)] at hs hw3
          have hL3 : w3.heap[W.heap.size + 1]? = some (.cells #[.int .u32 x, .int .i64 ((e : Int) + 1)] 32) := by rw [hw3]; exact (hs.other (by omega)).trans hL
          have hH3 : w3.heap[W.heap.size + 1 + 1]? = some (.cells #[.int .u32 (kid x e true : Nat), .int .i64 ((e : Int) + 1)] 32) := by rw [hw3]; exact hs.at (lt_of_blk hH)
          have hb3 : Below (W.alloc (.cells #[.int .u32 x, .int .i64 e] 32)).heap.size (W.alloc (.cells #[.int .u32 x, .int .i64 e] 32)) w3 := by rw [hw3]; exact hbl.trans (bdn (hs.below (by simp)) 1)
          clear hw3 hs hL hH hbl d0 f0 HL
          obtain ⟨_, hr0, hk0, _, hJ0, _, _, hcap0, _⟩ := H0.out
          have hk3' := Kp.of_below hr0.box hb3
          have hr3 := hr0.kp hk3'
          have hJ3 := abides_below HJ.out.1 hJ0 hb3
          have hk3 := hk0.trans hk3'
          have hcap3 := hcap0
          have hS3 := Safe.new hr0.box hr0.fresh hb3 (by simp) hH3
          clear hk3' hr0 hk0 hJ0 hcap0 hb3
          generalize hphe : ((kid x e true : Nat) : Int) = ph at hH3
          have hph : (N (kid x e true) (e + 1)).isSome → ph = ((kid x e true : Nat) : Int) ∧ (e : Int) + 1 = ((e + 1 : Nat) : Int) := fun _ => ⟨hphe.symm, rfl⟩
          clear hphe
          have HR3 := Lib.hid (And.intro hr3 (And.intro hJ3 (And.intro hk3 (And.intro hcap3 hph))))
          have hkeyc : ∀ c, Key (kid x e c) (e + 1) ∨ 32 < e + 1 := fun c => by
            by_cases h : e ≤ 31
            · exact .inl (H0.out.2.2.2.2.2.2.2.2.kid h c)
            · exact .inr (by omega)
          have HKC := Lib.hid hkeyc
          have ih0 := Lib.hid (HIH.out (kid x e false) (e + 1) x ((e : Int) + 1) pre w3.drew m (by omega) (hr3.kp (Kp.of_below hr3.box (Below.drew (Below.refl _ _)))) (hkeyc false) (fun _ => ⟨rfl, rfl⟩) (abides_below HJ.out.1 hJ3 (Below.drew (Below.refl _ _))) (by simp only [List.length_append] at hcap3 ⊢; omega))
          obtain ⟨c0, c1, -, -, -⟩ := nodeS hr3.trie H0.out.2.2.2.2.2.2.1
          have l0 : w3.cell? ⟨W.heap.size + 1, 0, none⟩ = some (.int .u32 x) := cell_of hL3 rfl
          have l1 : w3.cell? ⟨W.heap.size + 1, 1, none⟩ = some (.int .i64 ((e : Int) + 1)) := cell_of hL3 rfl
          have HH3 := Lib.hid (And.intro hH3 hS3)
          clear hr3 hJ3 hk3 hcap3 hkeyc hph hL3 hH3 hS3 c1
          unfold ptr at c0 ih0
          refine wpIn_wide.2 ?_
          refine wp_region_pieces (by kernel_rfl) ?_
          refine wpAny_seg (fun w' => w' = w3.drew) [0, 1, 2, 3, 4, 5, 6] (g := 12) rfl (by kernel_rfl) rfl ?_
          simp only [pick, List.getD_cons_zero, List.getD_cons_succ]
          iterate 7 ((with_reducible refine wpQuiet_step (fun K hK => ?_)); go_simp; (with_reducible refine hK _ ?_); clear hK K)
          refine wpQuiet_nil ?_
          rintro _ rfl
          clear c0 l0 l1
          refine wpAny_one 7 (by kernel_rfl) ?_
          simp only [pick, List.getD_cons_zero, List.getD_cons_succ]
          go_wp2_with (go_at_call 62; refine (callsIn_wide.1 ih0.out).mono ?_; rintro e4 w4 (⟨rfl, hJ4, hk4⟩ | ⟨rfl, q, hq, hx4⟩))
          · obtain ⟨hr3, hJ3, hk3, hcap3, hph⟩ := HR3.out
            obtain ⟨hH3, hS3⟩ := HH3.out
            have hkd := Kp.of_below hr3.box (Below.drew (Below.refl w3.heap.size w3))
            have hk34 := hkd.trans hk4
            have hr4 := hr3.kp hk34
            obtain ⟨-, c1, -, -, -⟩ := nodeS hr4.trie H0.out.2.2.2.2.2.2.1
            have hH4 := (hS3.kp hk34).2.trans hH3
            have l0 : w4.cell? ⟨W.heap.size + 1 + 1, 0, none⟩ = some (.int .u32 ph) := cell_of hH4 rfl
            have l1 : w4.cell? ⟨W.heap.size + 1 + 1, 1, none⟩ = some (.int .i64 ((e : Int) + 1)) := cell_of hH4 rfl
            have ih1 := Lib.hid (HIH.out (kid x e true) (e + 1) ph ((e : Int) + 1) (pre ++ trav M f (kid x e false) (e + 1)) w4 m (by omega) hr4 (HKC.out true) hph hJ4 (by simp only [List.length_append] at hcap3 ⊢; omega))
            have HK4 := Lib.hid (hk3.trans hk34)
            clear hr3 hJ3 hk3 hcap3 hph hH3 hS3 hkd hk34 hr4 hH4 hJ4 hk4 ih0 HR3 HH3 HIH
            unfold ptr at c1 ih1
            refine wpAny_one 8 (by kernel_rfl) ?_
            simp only [pick, List.getD_cons_zero, List.getD_cons_succ]
            go_wp2_with fail
            refine wpAny_seg (fun w' => w' = w4) [9, 10, 11, 12, 13, 14, 15] (g := 3) rfl (by kernel_rfl) rfl ?_
            simp only [pick, List.getD_cons_zero, List.getD_cons_succ]
            iterate 7 ((with_reducible refine wpQuiet_step (fun K hK => ?_)); go_simp; (with_reducible refine hK _ ?_); clear hK K)
            refine wpQuiet_nil ?_
            rintro _ rfl
            clear c1 l0 l1
            refine wpAny_one 16 (by kernel_rfl) ?_
            simp only [pick, List.getD_cons_zero, List.getD_cons_succ]
            go_wp2_with (go_at_call 62; refine (callsIn_wide.1 ih1.out).mono ?_; rintro e5 w5 (⟨rfl, hJ5, hk5⟩ | ⟨rfl, q, hq, hx5⟩))
            · refine wpAny_one 17 (by kernel_rfl) ?_
              simp only [pick, List.getD_cons_zero, List.getD_cons_succ]
              go_wp2_with fail
              refine wpAny_one 18 (by kernel_rfl) ?_
              simp only [pick, List.getD_cons_zero, List.getD_cons_succ]
              go_wp2_with fail
              refine wpAny_done (by kernel_rfl) ?_ _
              gi_wp2
              go_ret
              exact .inl ⟨rfl, by simpa [List.append_assoc] using hJ5, HK4.out.trans hk5⟩
            · refine wpAny_one 17 (by kernel_rfl) ?_
              simp only [pick, List.getD_cons_zero, List.getD_cons_succ]
              go_wp2_with fail
              refine wpAny_one 18 (by kernel_rfl) ?_
              simp only [pick, List.getD_cons_zero, List.getD_cons_succ]
              go_wp2_with fail
              refine wpAny_done (by kernel_rfl) ?_ _
              gi_wp2
              go_ret
              obtain ⟨t, ht⟩ := hq
              exact .inr ⟨rfl, (trav M f (kid x e false) (e + 1) ++ q), ⟨t, by simp [← ht]⟩, by simpa [List.append_assoc] using hx5⟩
          · clear ih0 HR3 HH3 HIH
            refine wpAny_one 8 (by kernel_rfl) ?_
            simp only [pick, List.getD_cons_zero, List.getD_cons_succ]
            go_wp2_with fail
            refine wpAny_seg (fun w' => w' = w4) [9, 10, 11, 12, 13, 14, 15] (g := 3) rfl (by kernel_rfl) rfl ?_
            simp only [pick, List.getD_cons_zero, List.getD_cons_succ]
            iterate 7 ((with_reducible refine wpQuiet_step (fun K hK => ?_)); go_simp; (with_reducible refine hK _ ?_); clear hK K)
            refine wpQuiet_nil ?_
            rintro _ rfl
            refine wpAny_one 16 (by kernel_rfl) ?_
            simp only [pick, List.getD_cons_zero, List.getD_cons_succ]
            go_wp2_with fail
            refine wpAny_one 17 (by kernel_rfl) ?_
            simp only [pick, List.getD_cons_zero, List.getD_cons_succ]
            go_wp2_with fail
            refine wpAny_one 18 (by kernel_rfl) ?_
            simp only [pick, List.getD_cons_zero, List.getD_cons_succ]
            go_wp2_with fail
            refine wpAny_done (by kernel_rfl) ?_ _
            gi_wp2
            go_ret
            obtain ⟨t, ht⟩ := hq
            exact .inr ⟨rfl, q, ⟨t ++ trav M f (kid x e true) (e + 1), by simp [← ht, List.append_assoc]⟩, by simpa [List.append_assoc] using hx4⟩

        · have h32' : ¬ ((e : Int) < 32) := by omega
          have hee : IntKind.i64.wrap ((e : Int) + 1) = (e : Int) + 1 := IntWalk.i64_in _ (by omega)
          gi_wp2
          refine ⟨fun _ h => (by cases h), ?_⟩
          gi_wp2
          have hL : (((W.alloc (.cells #[.int .u32 x, .int .i64 e] 32)).alloc (.cells #[.int .u32 x, .int .i64 ((e : Int) + 1)] 32)).alloc (.cells #[.int .u32 x, .int .i64 ((e : Int) + 1)] 32)).heap[W.heap.size + 1]? = some (.cells #[.int .u32 x, .int .i64 ((e : Int) + 1)] 32) := hold (hnewAt (by simp))
          have hH : (((W.alloc (.cells #[.int .u32 x, .int .i64 e] 32)).alloc (.cells #[.int .u32 x, .int .i64 ((e : Int) + 1)] 32)).alloc (.cells #[.int .u32 x, .int .i64 ((e : Int) + 1)] 32)).heap[W.heap.size + 1 + 1]? = some (.cells #[.int .u32 x, .int .i64 ((e : Int) + 1)] 32) := hnewAt (by simp)
          have hbl : Below (W.alloc (.cells #[.int .u32 x, .int .i64 e] 32)).heap.size (W.alloc (.cells #[.int .u32 x, .int .i64 e] 32)) (((W.alloc (.cells #[.int .u32 x, .int .i64 e] 32)).alloc (.cells #[.int .u32 x, .int .i64 ((e : Int) + 1)] 32)).alloc (.cells #[.int .u32 x, .int .i64 ((e : Int) + 1)] 32)) := ((Below.refl _ _).alloc (Nat.le_refl _) _).alloc (by simp) _
          have hLs : (W.alloc (.cells #[.int .u32 x, .int .i64 e] 32)).heap.size = W.heap.size + 1 := by simp
          generalize ((W.alloc (.cells #[.int .u32 x, .int .i64 e] 32)).alloc (.cells #[.int .u32 x, .int .i64 ((e : Int) + 1)] 32)).alloc (.cells #[.int .u32 x, .int .i64 ((e : Int) + 1)] 32) = w3 at hL hH hbl ⊢
          have hL3 := hL
          have hH3 := hH
          have hb3 := hbl
          clear hL hH hbl
          obtain ⟨_, hr0, hk0, _, hJ0, _, _, hcap0, _⟩ := H0.out
          have hk3' := Kp.of_below hr0.box hb3
          have hr3 := hr0.kp hk3'
          have hJ3 := abides_below HJ.out.1 hJ0 hb3
          have hk3 := hk0.trans hk3'
          have hcap3 := hcap0
          have hS3 := Safe.new hr0.box hr0.fresh hb3 (by simp) hH3
          clear hk3' hr0 hk0 hJ0 hcap0 hb3
          have hno : N (kid x e true) (e + 1) = none := hr3.trie.none33 _ (by omega)
          have hph : (N (kid x e true) (e + 1)).isSome → (x : Int) = ((kid x e true : Nat) : Int) ∧ (e : Int) + 1 = ((e + 1 : Nat) : Int) := fun hs => by rw [hno] at hs; cases hs
          clear hno
          generalize hphe : (x : Int) = ph at hH3 hph
          clear hphe
          have HR3 := Lib.hid (And.intro hr3 (And.intro hJ3 (And.intro hk3 (And.intro hcap3 hph))))
          have hkeyc : ∀ c, Key (kid x e c) (e + 1) ∨ 32 < e + 1 := fun c => by
            by_cases h : e ≤ 31
            · exact .inl (H0.out.2.2.2.2.2.2.2.2.kid h c)
            · exact .inr (by omega)
          have HKC := Lib.hid hkeyc
          have ih0 := Lib.hid (HIH.out (kid x e false) (e + 1) x ((e : Int) + 1) pre w3.drew m (by omega) (hr3.kp (Kp.of_below hr3.box (Below.drew (Below.refl _ _)))) (hkeyc false) (fun _ => ⟨rfl, rfl⟩) (abides_below HJ.out.1 hJ3 (Below.drew (Below.refl _ _))) (by simp only [List.length_append] at hcap3 ⊢; omega))
          obtain ⟨c0, c1, -, -, -⟩ := nodeS hr3.trie H0.out.2.2.2.2.2.2.1
          have l0 : w3.cell? ⟨W.heap.size + 1, 0, none⟩ = some (.int .u32 x) := cell_of hL3 rfl
          have l1 : w3.cell? ⟨W.heap.size + 1, 1, none⟩ = some (.int .i64 ((e : Int) + 1)) := cell_of hL3 rfl
          have HH3 := Lib.hid (And.intro hH3 hS3)
          clear hr3 hJ3 hk3 hcap3 hkeyc hph hL3 hH3 hS3 c1
          unfold ptr at c0 ih0
          refine wpIn_wide.2 ?_
          refine wp_region_pieces (by kernel_rfl) ?_
          refine wpAny_seg (fun w' => w' = w3.drew) [0, 1, 2, 3, 4, 5, 6] (g := 12) rfl (by kernel_rfl) rfl ?_
          simp only [pick, List.getD_cons_zero, List.getD_cons_succ]
          iterate 7 ((with_reducible refine wpQuiet_step (fun K hK => ?_)); go_simp; (with_reducible refine hK _ ?_); clear hK K)
          refine wpQuiet_nil ?_
          rintro _ rfl
          clear c0 l0 l1
          refine wpAny_one 7 (by kernel_rfl) ?_
          simp only [pick, List.getD_cons_zero, List.getD_cons_succ]
          go_wp2_with (go_at_call 62; refine (callsIn_wide.1 ih0.out).mono ?_; rintro e4 w4 (⟨rfl, hJ4, hk4⟩ | ⟨rfl, q, hq, hx4⟩))
          · obtain ⟨hr3, hJ3, hk3, hcap3, hph⟩ := HR3.out
            obtain ⟨hH3, hS3⟩ := HH3.out
            have hkd := Kp.of_below hr3.box (Below.drew (Below.refl w3.heap.size w3))
            have hk34 := hkd.trans hk4
            have hr4 := hr3.kp hk34
            obtain ⟨-, c1, -, -, -⟩ := nodeS hr4.trie H0.out.2.2.2.2.2.2.1
            have hH4 := (hS3.kp hk34).2.trans hH3
            have l0 : w4.cell? ⟨W.heap.size + 1 + 1, 0, none⟩ = some (.int .u32 ph) := cell_of hH4 rfl
            have l1 : w4.cell? ⟨W.heap.size + 1 + 1, 1, none⟩ = some (.int .i64 ((e : Int) + 1)) := cell_of hH4 rfl
            have ih1 := Lib.hid (HIH.out (kid x e true) (e + 1) ph ((e : Int) + 1) (pre ++ trav M f (kid x e false) (e + 1)) w4 m (by omega) hr4 (HKC.out true) hph hJ4 (by simp only [List.length_append] at hcap3 ⊢; omega))
            have HK4 := Lib.hid (hk3.trans hk34)
            clear hr3 hJ3 hk3 hcap3 hph hH3 hS3 hkd hk34 hr4 hH4 hJ4 hk4 ih0 HR3 HH3 HIH
            unfold ptr at c1 ih1
            refine wpAny_one 8 (by kernel_rfl) ?_
            simp only [pick, List.getD_cons_zero, List.getD_cons_succ]
            go_wp2_with fail
            refine wpAny_seg (fun w' => w' = w4) [9, 10, 11, 12, 13, 14, 15] (g := 3) rfl (by kernel_rfl) rfl ?_
            simp only [pick, List.getD_cons_zero, List.getD_cons_succ]
            iterate 7 ((with_reducible refine wpQuiet_step (fun K hK => ?_)); go_simp; (with_reducible refine hK _ ?_); clear hK K)
            refine wpQuiet_nil ?_
            rintro _ rfl
            clear c1 l0 l1
            refine wpAny_one 16 (by kernel_rfl) ?_
            simp only [pick, List.getD_cons_zero, List.getD_cons_succ]
            go_wp2_with (go_at_call 62; refine (callsIn_wide.1 ih1.out).mono ?_; rintro e5 w5 (⟨rfl, hJ5, hk5⟩ | ⟨rfl, q, hq, hx5⟩))
            · refine wpAny_one 17 (by kernel_rfl) ?_
              simp only [pick, List.getD_cons_zero, List.getD_cons_succ]
              go_wp2_with fail
              refine wpAny_one 18 (by kernel_rfl) ?_
              simp only [pick, List.getD_cons_zero, List.getD_cons_succ]
              go_wp2_with fail
              refine wpAny_done (by kernel_rfl) ?_ _
              gi_wp2
              go_ret
              exact .inl ⟨rfl, by simpa [List.append_assoc] using hJ5, HK4.out.trans hk5⟩
            · refine wpAny_one 17 (by kernel_rfl) ?_
              simp only [pick, List.getD_cons_zero, List.getD_cons_succ]
              go_wp2_with fail
              refine wpAny_one 18 (by kernel_rfl) ?_
              simp only [pick, List.getD_cons_zero, List.getD_cons_succ]
              go_wp2_with fail
              refine wpAny_done (by kernel_rfl) ?_ _
              gi_wp2
              go_ret
              obtain ⟨t, ht⟩ := hq
              exact .inr ⟨rfl, (trav M f (kid x e false) (e + 1) ++ q), ⟨t, by simp [← ht]⟩, by simpa [List.append_assoc] using hx5⟩
          · clear ih0 HR3 HH3 HIH
            refine wpAny_one 8 (by kernel_rfl) ?_
            simp only [pick, List.getD_cons_zero, List.getD_cons_succ]
            go_wp2_with fail
            refine wpAny_seg (fun w' => w' = w4) [9, 10, 11, 12, 13, 14, 15] (g := 3) rfl (by kernel_rfl) rfl ?_
            simp only [pick, List.getD_cons_zero, List.getD_cons_succ]
            iterate 7 ((with_reducible refine wpQuiet_step (fun K hK => ?_)); go_simp; (with_reducible refine hK _ ?_); clear hK K)
            refine wpQuiet_nil ?_
            rintro _ rfl
            refine wpAny_one 16 (by kernel_rfl) ?_
            simp only [pick, List.getD_cons_zero, List.getD_cons_succ]
            go_wp2_with fail
            refine wpAny_one 17 (by kernel_rfl) ?_
            simp only [pick, List.getD_cons_zero, List.getD_cons_succ]
            go_wp2_with fail
            refine wpAny_one 18 (by kernel_rfl) ?_
            simp only [pick, List.getD_cons_zero, List.getD_cons_succ]
            go_wp2_with fail
            refine wpAny_done (by kernel_rfl) ?_ _
            gi_wp2
            go_ret
            obtain ⟨t, ht⟩ := hq
            exact .inr ⟨rfl, q, ⟨t ++ trav M f (kid x e true) (e + 1), by simp [← ht, List.append_assoc]⟩, by simpa [List.append_assoc] using hx4⟩

      | some y =>
        rw [hM] at c3 hcap
        simp only [Option.isSome_some, if_true, List.cons_append, List.nil_append] at c3 hcap ⊢
        have hcap1 : (pre ++ [(x, e)]).length + (trav M f (kid x e false) (e + 1) ++ trav M f (kid x e true) (e + 1)).length ≤ cap := by
          simp only [List.length_cons, List.length_append, List.length_nil] at hcap ⊢; omega
        obtain ⟨fn, tmps, assign, body, hy, hR⟩ := hY (m - 1) pre (x, e) _ hJ0 (by simp only [List.length_cons] at hcap; omega)
        dsimp only [pfx] at hy
        have hR2 := hR.mono (R' := fun e' W1 => (e' = .returned (.bool true) ∧ W.heap.size < W1.heap.size ∧ W1.cell? ⟨W.heap.size, 0, none⟩ = some (.int .u32 x) ∧ W1.cell? ⟨W.heap.size, 1, none⟩ = some (.int .i64 e) ∧ W1.heap[W.heap.size]? = some (.cells #[.int .u32 x, .int .i64 e] 32) ∧ RdyS B W1 b N n M ∧ Kp B W W1 ∧ Safe B W1 W.heap.size ∧ J (pre ++ [(x, e)]) W1) ∨ (e' = .returned (.bool false) ∧ Jx (pre ++ [(x, e)]) W1))
          (fun e' W1 h => h.elim (fun ⟨he, hj, hk1⟩ => .inl ⟨he, lt_of_blk ((hS0.kp hk1).2.trans hpb), cell_of ((hS0.kp hk1).2.trans hpb) rfl, cell_of ((hS0.kp hk1).2.trans hpb) rfl, (hS0.kp hk1).2.trans hpb, hr0.kp hk1, hk0.trans hk1, (hS0.kp hk1).1, hj⟩) .inr)
        have H1 := Lib.hid (And.intro hr (And.intro hN (And.intro hcap1 hK)))
        clear hr hr0 hk0 hS0 hJ0 hpb hN hcap hcap1 ih hJ hY hp h0 hK hb0 c0 c1 c2 hM hR
        unfold ptr
        simp only [Option.map_some]
        by_cases h32 : e < 32
        · have h32' : (e : Int) < 32 := by omega
          have hee : IntKind.i64.wrap ((e : Int) + 1) = (e : Int) + 1 := IntWalk.i64_in _ (by omega)
          refine callsIn_of_wp Try.func62 rfl trivial ?_ rfl
          simp only [Try.ntmps62, List.size_toArray, List.length_cons, List.length_nil, Nat.reduceAdd, Nat.reduceSub, Array.replicate_succ, Array.replicate_zero, List.push_toArray, List.append_toArray, List.nil_append, List.cons_append]
          gi_wp2_with ((try refine ⟨hdd _, ?_⟩); refine hR2.mono ?_; clear hR2; rintro e1 w1 (⟨rfl, hlt1, r0, r1, hpb, hr0, hk0, hS0, hJ0⟩ | ⟨rfl, hx1⟩))
          · have H0 := Lib.hid (And.intro H1.out.1 (And.intro hr0 (And.intro hk0 (And.intro hS0 (And.intro hJ0 (And.intro hpb (And.intro H1.out.2.1 (And.intro H1.out.2.2.1 H1.out.2.2.2))))))))
            clear hpb hr0 hk0 hS0 hJ0 hy q0 q1 c3
            have hL : ((w1.alloc (.cells #[.int .u32 x, .int .i64 ((e : Int) + 1)] 32)).alloc (.cells #[.int .u32 x, .int .i64 ((e : Int) + 1)] 32)).heap[w1.heap.size]? = some (.cells #[.int .u32 x, .int .i64 ((e : Int) + 1)] 32) := hold (hnewAt (by simp))
            have hH : ((w1.alloc (.cells #[.int .u32 x, .int .i64 ((e : Int) + 1)] 32)).alloc (.cells #[.int .u32 x, .int .i64 ((e : Int) + 1)] 32)).heap[w1.heap.size + 1]? = some (.cells #[.int .u32 x, .int .i64 ((e : Int) + 1)] 32) := hnewAt (by simp)
            have hbl : Below w1.heap.size w1 ((w1.alloc (.cells #[.int .u32 x, .int .i64 ((e : Int) + 1)] 32)).alloc (.cells #[.int .u32 x, .int .i64 ((e : Int) + 1)] 32)) := ((Below.refl _ _).alloc (Nat.le_refl _) _).alloc (by simp) _
            have hLs : w1.heap.size = w1.heap.size := by simp
            have q1' := (Below.cell hbl (p := ⟨W.heap.size, 1, none⟩) hlt1).trans r1
            generalize (w1.alloc (.cells #[.int .u32 x, .int .i64 ((e : Int) + 1)] 32)).alloc (.cells #[.int .u32 x, .int .i64 ((e : Int) + 1)] 32) = w2 at hL hH hbl q1' ⊢
            have d0 : w2.cell? ⟨w1.heap.size + 1, 0, none⟩ = some (.int .u32 x) := cell_of hH rfl
            have f0 : w2.frozen? ⟨w1.heap.size + 1, 0, none⟩ = false := free_of hH
            have HL := Lib.hid (And.intro hL (And.intro hH (And.intro hbl hLs)))
            have hw31 : IntKind.i64.wrap ((31 : Int) - e) = 31 - e := IntWalk.i64_in _ (by omega)
            have he31 : ¬ (31 < e) := by omega
            have hn31 : ¬ ((31 : Int) - e < 0) := by omega
            clear hL hH hbl hLs r0 r1
            refine wpIn_wide.2 ?_
            refine wp_region_quiet_tail (fun w' => w' = w2.drew) 8 (by kernel_rfl) (by kernel_rfl) rfl ?_
            simp only [List.take_succ_cons, List.take_zero, List.drop_succ_cons, List.drop_zero]
            iterate 8 ((with_reducible refine wpQuiet_step (fun K hK => ?_)); go_simp; (with_reducible refine hK _ ?_); clear hK K)
            refine wpQuiet_nil ?_
            rintro _ rfl
            clear q1'
            go_wp2_with fail
            gi_wp2
            have hfin : ∃ w3, w3 = (w2.setCell ⟨w1.heap.size + 1, 0, none⟩ (.int .u32 (bits .or .u32 (x : Int) (2 ^ (31 - e) % 4294967296)))).drew := ⟨_, rfl⟩
            obtain ⟨w3, hw3⟩ := hfin
            rw [← hw3]
            obtain ⟨hL, hH, hbl, hLs⟩ := HL.out
            have hs := (SetB.self hH).store (o := 0) (lt_of_blk hH) (.int .u32 (bits .or .u32 (x : Int) (2 ^ (31 - e) % 4294967296)))
            rw [or_kid H0.out.2.2.2.2.2.2.2.2 (by omega)] at hs hw3
            have hL3 : w3.heap[w1.heap.size]? = some (.cells #[.int .u32 x, .int .i64 ((e : Int) + 1)] 32) := by rw [hw3]; exact (hs.other (by omega)).trans hL
            have hH3 : w3.heap[w1.heap.size + 1]? = some (.cells #[.int .u32 (kid x e true : Nat), .int .i64 ((e : Int) + 1)] 32) := by rw [hw3]; exact hs.at (lt_of_blk hH)
            have hb3 : Below w1.heap.size w1 w3 := by rw [hw3]; exact hbl.trans (bdn (hs.below (by simp)) 1)
            clear hw3 hs hL hH hbl d0 f0 HL
            obtain ⟨_, hr0, hk0, _, hJ0, _, _, hcap0, _⟩ := H0.out
            have hk3' := Kp.of_below hr0.box hb3
            have hr3 := hr0.kp hk3'
            have hJ3 := abides_below HJ.out.1 hJ0 hb3
            have hk3 := hk0.trans hk3'
            have hcap3 := hcap0
            have hS3 := Safe.new hr0.box hr0.fresh hb3 (by simp) hH3
            clear hk3' hr0 hk0 hJ0 hcap0 hb3
            generalize hphe : ((kid x e true : Nat) : Int) = ph at hH3
            have hph : (N (kid x e true) (e + 1)).isSome → ph = ((kid x e true : Nat) : Int) ∧ (e : Int) + 1 = ((e + 1 : Nat) : Int) := fun _ => ⟨hphe.symm, rfl⟩
            clear hphe
            have HR3 := Lib.hid (And.intro hr3 (And.intro hJ3 (And.intro hk3 (And.intro hcap3 hph))))
            have hkeyc : ∀ c, Key (kid x e c) (e + 1) ∨ 32 < e + 1 := fun c => by
              by_cases h : e ≤ 31
              · exact .inl (H0.out.2.2.2.2.2.2.2.2.kid h c)
              · exact .inr (by omega)
            have HKC := Lib.hid hkeyc
            have ih0 := Lib.hid (HIH.out (kid x e false) (e + 1) x ((e : Int) + 1) (pre ++ [(x, e)]) w3.drew m (by omega) (hr3.kp (Kp.of_below hr3.box (Below.drew (Below.refl _ _)))) (hkeyc false) (fun _ => ⟨rfl, rfl⟩) (abides_below HJ.out.1 hJ3 (Below.drew (Below.refl _ _))) (by simp only [List.length_append] at hcap3 ⊢; omega))
            obtain ⟨c0, c1, -, -, -⟩ := nodeS hr3.trie H0.out.2.2.2.2.2.2.1
            have l0 : w3.cell? ⟨w1.heap.size, 0, none⟩ = some (.int .u32 x) := cell_of hL3 rfl
            have l1 : w3.cell? ⟨w1.heap.size, 1, none⟩ = some (.int .i64 ((e : Int) + 1)) := cell_of hL3 rfl
            have HH3 := Lib.hid (And.intro hH3 hS3)
            clear hr3 hJ3 hk3 hcap3 hkeyc hph hL3 hH3 hS3 c1
            unfold ptr at c0 ih0
            refine wpIn_wide.2 ?_
            refine wp_region_pieces (by kernel_rfl) ?_
            refine wpAny_seg (fun w' => w' = w3.drew) [0, 1, 2, 3, 4, 5, 6] (g := 12) rfl (by kernel_rfl) rfl ?_
            simp only [pick, List.getD_cons_zero, List.getD_cons_succ]
            iterate 7 ((with_reducible refine wpQuiet_step (fun K hK => ?_)); go_simp; (with_reducible refine hK _ ?_); clear hK K)
            refine wpQuiet_nil ?_
            rintro _ rfl
            clear c0 l0 l1
            refine wpAny_one 7 (by kernel_rfl) ?_
            simp only [pick, List.getD_cons_zero, List.getD_cons_succ]
            go_wp2_with (go_at_call 62; refine (callsIn_wide.1 ih0.out).mono ?_; rintro e4 w4 (⟨rfl, hJ4, hk4⟩ | ⟨rfl, q, hq, hx4⟩))
            · obtain ⟨hr3, hJ3, hk3, hcap3, hph⟩ := HR3.out
              obtain ⟨hH3, hS3⟩ := HH3.out
              have hkd := Kp.of_below hr3.box (Below.drew (Below.refl w3.heap.size w3))
              have hk34 := hkd.trans hk4
              have hr4 := hr3.kp hk34
              obtain ⟨-, c1, -, -, -⟩ := nodeS hr4.trie H0.out.2.2.2.2.2.2.1
              have hH4 := (hS3.kp hk34).2.trans hH3
              have l0 : w4.cell? ⟨w1.heap.size + 1, 0, none⟩ = some (.int .u32 ph) := cell_of hH4 rfl
              have l1 : w4.cell? ⟨w1.heap.size + 1, 1, none⟩ = some (.int .i64 ((e : Int) + 1)) := cell_of hH4 rfl
              have ih1 := Lib.hid (HIH.out (kid x e true) (e + 1) ph ((e : Int) + 1) ((pre ++ [(x, e)]) ++ trav M f (kid x e false) (e + 1)) w4 m (by omega) hr4 (HKC.out true) hph hJ4 (by simp only [List.length_append] at hcap3 ⊢; omega))
              have HK4 := Lib.hid (hk3.trans hk34)
              clear hr3 hJ3 hk3 hcap3 hph hH3 hS3 hkd hk34 hr4 hH4 hJ4 hk4 ih0 HR3 HH3 HIH
              unfold ptr at c1 ih1
              refine wpAny_one 8 (by kernel_rfl) ?_
              simp only [pick, List.getD_cons_zero, List.getD_cons_succ]
              go_wp2_with fail
              refine wpAny_seg (fun w' => w' = w4) [9, 10, 11, 12, 13, 14, 15] (g := 3) rfl (by kernel_rfl) rfl ?_
              simp only [pick, List.getD_cons_zero, List.getD_cons_succ]
              iterate 7 ((with_reducible refine wpQuiet_step (fun K hK => ?_)); go_simp; (with_reducible refine hK _ ?_); clear hK K)
              refine wpQuiet_nil ?_
              rintro _ rfl
              clear c1 l0 l1
              refine wpAny_one 16 (by kernel_rfl) ?_
              simp only [pick, List.getD_cons_zero, List.getD_cons_succ]
              go_wp2_with (go_at_call 62; refine (callsIn_wide.1 ih1.out).mono ?_; rintro e5 w5 (⟨rfl, hJ5, hk5⟩ | ⟨rfl, q, hq, hx5⟩))
              · refine wpAny_one 17 (by kernel_rfl) ?_
                simp only [pick, List.getD_cons_zero, List.getD_cons_succ]
                go_wp2_with fail
                refine wpAny_one 18 (by kernel_rfl) ?_
                simp only [pick, List.getD_cons_zero, List.getD_cons_succ]
                go_wp2_with fail
                refine wpAny_done (by kernel_rfl) ?_ _
                gi_wp2
                go_ret
                exact .inl ⟨rfl, by simpa [List.append_assoc] using hJ5, HK4.out.trans hk5⟩
              · refine wpAny_one 17 (by kernel_rfl) ?_
                simp only [pick, List.getD_cons_zero, List.getD_cons_succ]
                go_wp2_with fail
                refine wpAny_one 18 (by kernel_rfl) ?_
                simp only [pick, List.getD_cons_zero, List.getD_cons_succ]
                go_wp2_with fail
                refine wpAny_done (by kernel_rfl) ?_ _
                gi_wp2
                go_ret
                obtain ⟨t, ht⟩ := hq
                exact .inr ⟨rfl, (x, e) :: (trav M f (kid x e false) (e + 1) ++ q), ⟨t, by simp [← ht]⟩, by simpa [List.append_assoc] using hx5⟩
            · clear ih0 HR3 HH3 HIH
              refine wpAny_one 8 (by kernel_rfl) ?_
              simp only [pick, List.getD_cons_zero, List.getD_cons_succ]
              go_wp2_with fail
              refine wpAny_seg (fun w' => w' = w4) [9, 10, 11, 12, 13, 14, 15] (g := 3) rfl (by kernel_rfl) rfl ?_
              simp only [pick, List.getD_cons_zero, List.getD_cons_succ]
              iterate 7 ((with_reducible refine wpQuiet_step (fun K hK => ?_)); go_simp; (with_reducible refine hK _ ?_); clear hK K)
              refine wpQuiet_nil ?_
              rintro _ rfl
              refine wpAny_one 16 (by kernel_rfl) ?_
              simp only [pick, List.getD_cons_zero, List.getD_cons_succ]
              go_wp2_with fail
              refine wpAny_one 17 (by kernel_rfl) ?_
              simp only [pick, List.getD_cons_zero, List.getD_cons_succ]
              go_wp2_with fail
              refine wpAny_one 18 (by kernel_rfl) ?_
              simp only [pick, List.getD_cons_zero, List.getD_cons_succ]
              go_wp2_with fail
              refine wpAny_done (by kernel_rfl) ?_ _
              gi_wp2
              go_ret
              obtain ⟨t, ht⟩ := hq
              exact .inr ⟨rfl, (x, e) :: q, ⟨t ++ trav M f (kid x e true) (e + 1), by simp [← ht, List.append_assoc]⟩, by simpa [List.append_assoc] using hx4⟩


          · go_ret
            exact .inr ⟨rfl, [(x, e)], ⟨_, rfl⟩, hx1⟩
        · have h32' : ¬ ((e : Int) < 32) := by omega
          have hee : IntKind.i64.wrap ((e : Int) + 1) = (e : Int) + 1 := IntWalk.i64_in _ (by omega)
          refine callsIn_of_wp Try.func62 rfl trivial ?_ rfl
          simp only [Try.ntmps62, List.size_toArray, List.length_cons, List.length_nil, Nat.reduceAdd, Nat.reduceSub, Array.replicate_succ, Array.replicate_zero, List.push_toArray, List.append_toArray, List.nil_append, List.cons_append]
          gi_wp2_with ((try refine ⟨hdd _, ?_⟩); refine hR2.mono ?_; clear hR2; rintro e1 w1 (⟨rfl, hlt1, r0, r1, hpb, hr0, hk0, hS0, hJ0⟩ | ⟨rfl, hx1⟩))
          · have H0 := Lib.hid (And.intro H1.out.1 (And.intro hr0 (And.intro hk0 (And.intro hS0 (And.intro hJ0 (And.intro hpb (And.intro H1.out.2.1 (And.intro H1.out.2.2.1 H1.out.2.2.2))))))))
            clear hpb hr0 hk0 hS0 hJ0 hy q0 q1 c3
            have hL : ((w1.alloc (.cells #[.int .u32 x, .int .i64 ((e : Int) + 1)] 32)).alloc (.cells #[.int .u32 x, .int .i64 ((e : Int) + 1)] 32)).heap[w1.heap.size]? = some (.cells #[.int .u32 x, .int .i64 ((e : Int) + 1)] 32) := hold (hnewAt (by simp))
            have hH : ((w1.alloc (.cells #[.int .u32 x, .int .i64 ((e : Int) + 1)] 32)).alloc (.cells #[.int .u32 x, .int .i64 ((e : Int) + 1)] 32)).heap[w1.heap.size + 1]? = some (.cells #[.int .u32 x, .int .i64 ((e : Int) + 1)] 32) := hnewAt (by simp)
            have hbl : Below w1.heap.size w1 ((w1.alloc (.cells #[.int .u32 x, .int .i64 ((e : Int) + 1)] 32)).alloc (.cells #[.int .u32 x, .int .i64 ((e : Int) + 1)] 32)) := ((Below.refl _ _).alloc (Nat.le_refl _) _).alloc (by simp) _
            have hLs : w1.heap.size = w1.heap.size := by simp
            generalize (w1.alloc (.cells #[.int .u32 x, .int .i64 ((e : Int) + 1)] 32)).alloc (.cells #[.int .u32 x, .int .i64 ((e : Int) + 1)] 32) = w3 at hL hH hbl ⊢
            have hL3 := hL
            have hH3 := hH
            have hb3 := hbl
            clear hL hH hbl
            obtain ⟨_, hr0, hk0, _, hJ0, _, _, hcap0, _⟩ := H0.out
            have hk3' := Kp.of_below hr0.box hb3
            have hr3 := hr0.kp hk3'
            have hJ3 := abides_below HJ.out.1 hJ0 hb3
            have hk3 := hk0.trans hk3'
            have hcap3 := hcap0
            have hS3 := Safe.new hr0.box hr0.fresh hb3 (by simp) hH3
            clear hk3' hr0 hk0 hJ0 hcap0 hb3
            have hno : N (kid x e true) (e + 1) = none := hr3.trie.none33 _ (by omega)
            have hph : (N (kid x e true) (e + 1)).isSome → (x : Int) = ((kid x e true : Nat) : Int) ∧ (e : Int) + 1 = ((e + 1 : Nat) : Int) := fun hs => by rw [hno] at hs; cases hs
            clear hno
            generalize hphe : (x : Int) = ph at hH3 hph
            clear hphe
            have HR3 := Lib.hid (And.intro hr3 (And.intro hJ3 (And.intro hk3 (And.intro hcap3 hph))))
            have hkeyc : ∀ c, Key (kid x e c) (e + 1) ∨ 32 < e + 1 := fun c => by
              by_cases h : e ≤ 31
              · exact .inl (H0.out.2.2.2.2.2.2.2.2.kid h c)
              · exact .inr (by omega)
            have HKC := Lib.hid hkeyc
            have ih0 := Lib.hid (HIH.out (kid x e false) (e + 1) x ((e : Int) + 1) (pre ++ [(x, e)]) w3.drew m (by omega) (hr3.kp (Kp.of_below hr3.box (Below.drew (Below.refl _ _)))) (hkeyc false) (fun _ => ⟨rfl, rfl⟩) (abides_below HJ.out.1 hJ3 (Below.drew (Below.refl _ _))) (by simp only [List.length_append] at hcap3 ⊢; omega))
            obtain ⟨c0, c1, -, -, -⟩ := nodeS hr3.trie H0.out.2.2.2.2.2.2.1
            have l0 : w3.cell? ⟨w1.heap.size, 0, none⟩ = some (.int .u32 x) := cell_of hL3 rfl
            have l1 : w3.cell? ⟨w1.heap.size, 1, none⟩ = some (.int .i64 ((e : Int) + 1)) := cell_of hL3 rfl
            have HH3 := Lib.hid (And.intro hH3 hS3)
            clear hr3 hJ3 hk3 hcap3 hkeyc hph hL3 hH3 hS3 c1
            unfold ptr at c0 ih0
            refine wpIn_wide.2 ?_
            refine wp_region_pieces (by kernel_rfl) ?_
            refine wpAny_seg (fun w' => w' = w3.drew) [0, 1, 2, 3, 4, 5, 6] (g := 12) rfl (by kernel_rfl) rfl ?_
            simp only [pick, List.getD_cons_zero, List.getD_cons_succ]
            iterate 7 ((with_reducible refine wpQuiet_step (fun K hK => ?_)); go_simp; (with_reducible refine hK _ ?_); clear hK K)
            refine wpQuiet_nil ?_
            rintro _ rfl
            clear c0 l0 l1
            refine wpAny_one 7 (by kernel_rfl) ?_
            simp only [pick, List.getD_cons_zero, List.getD_cons_succ]
            go_wp2_with (go_at_call 62; refine (callsIn_wide.1 ih0.out).mono ?_; rintro e4 w4 (⟨rfl, hJ4, hk4⟩ | ⟨rfl, q, hq, hx4⟩))
            · obtain ⟨hr3, hJ3, hk3, hcap3, hph⟩ := HR3.out
              obtain ⟨hH3, hS3⟩ := HH3.out
              have hkd := Kp.of_below hr3.box (Below.drew (Below.refl w3.heap.size w3))
              have hk34 := hkd.trans hk4
              have hr4 := hr3.kp hk34
              obtain ⟨-, c1, -, -, -⟩ := nodeS hr4.trie H0.out.2.2.2.2.2.2.1
              have hH4 := (hS3.kp hk34).2.trans hH3
              have l0 : w4.cell? ⟨w1.heap.size + 1, 0, none⟩ = some (.int .u32 ph) := cell_of hH4 rfl
              have l1 : w4.cell? ⟨w1.heap.size + 1, 1, none⟩ = some (.int .i64 ((e : Int) + 1)) := cell_of hH4 rfl
              have ih1 := Lib.hid (HIH.out (kid x e true) (e + 1) ph ((e : Int) + 1) ((pre ++ [(x, e)]) ++ trav M f (kid x e false) (e + 1)) w4 m (by omega) hr4 (HKC.out true) hph hJ4 (by simp only [List.length_append] at hcap3 ⊢; omega))
              have HK4 := Lib.hid (hk3.trans hk34)
              clear hr3 hJ3 hk3 hcap3 hph hH3 hS3 hkd hk34 hr4 hH4 hJ4 hk4 ih0 HR3 HH3 HIH
              unfold ptr at c1 ih1
              refine wpAny_one 8 (by kernel_rfl) ?_
              simp only [pick, List.getD_cons_zero, List.getD_cons_succ]
              go_wp2_with fail
              refine wpAny_seg (fun w' => w' = w4) [9, 10, 11, 12, 13, 14, 15] (g := 3) rfl (by kernel_rfl) rfl ?_
              simp only [pick, List.getD_cons_zero, List.getD_cons_succ]
              iterate 7 ((with_reducible refine wpQuiet_step (fun K hK => ?_)); go_simp; (with_reducible refine hK _ ?_); clear hK K)
              refine wpQuiet_nil ?_
              rintro _ rfl
              clear c1 l0 l1
              refine wpAny_one 16 (by kernel_rfl) ?_
              simp only [pick, List.getD_cons_zero, List.getD_cons_succ]
              go_wp2_with (go_at_call 62; refine (callsIn_wide.1 ih1.out).mono ?_; rintro e5 w5 (⟨rfl, hJ5, hk5⟩ | ⟨rfl, q, hq, hx5⟩))
              · refine wpAny_one 17 (by kernel_rfl) ?_
                simp only [pick, List.getD_cons_zero, List.getD_cons_succ]
                go_wp2_with fail
                refine wpAny_one 18 (by kernel_rfl) ?_
                simp only [pick, List.getD_cons_zero, List.getD_cons_succ]
                go_wp2_with fail
                refine wpAny_done (by kernel_rfl) ?_ _
                gi_wp2
                go_ret
                exact .inl ⟨rfl, by simpa [List.append_assoc] using hJ5, HK4.out.trans hk5⟩
              · refine wpAny_one 17 (by kernel_rfl) ?_
                simp only [pick, List.getD_cons_zero, List.getD_cons_succ]
                go_wp2_with fail
                refine wpAny_one 18 (by kernel_rfl) ?_
                simp only [pick, List.getD_cons_zero, List.getD_cons_succ]
                go_wp2_with fail
                refine wpAny_done (by kernel_rfl) ?_ _
                gi_wp2
                go_ret
                obtain ⟨t, ht⟩ := hq
                exact .inr ⟨rfl, (x, e) :: (trav M f (kid x e false) (e + 1) ++ q), ⟨t, by simp [← ht]⟩, by simpa [List.append_assoc] using hx5⟩
            · clear ih0 HR3 HH3 HIH
              refine wpAny_one 8 (by kernel_rfl) ?_
              simp only [pick, List.getD_cons_zero, List.getD_cons_succ]
              go_wp2_with fail
              refine wpAny_seg (fun w' => w' = w4) [9, 10, 11, 12, 13, 14, 15] (g := 3) rfl (by kernel_rfl) rfl ?_
              simp only [pick, List.getD_cons_zero, List.getD_cons_succ]
              iterate 7 ((with_reducible refine wpQuiet_step (fun K hK => ?_)); go_simp; (with_reducible refine hK _ ?_); clear hK K)
              refine wpQuiet_nil ?_
              rintro _ rfl
              refine wpAny_one 16 (by kernel_rfl) ?_
              simp only [pick, List.getD_cons_zero, List.getD_cons_succ]
              go_wp2_with fail
              refine wpAny_one 17 (by kernel_rfl) ?_
              simp only [pick, List.getD_cons_zero, List.getD_cons_succ]
              go_wp2_with fail
              refine wpAny_one 18 (by kernel_rfl) ?_
              simp only [pick, List.getD_cons_zero, List.getD_cons_succ]
              go_wp2_with fail
              refine wpAny_done (by kernel_rfl) ?_ _
              gi_wp2
              go_ret
              obtain ⟨t, ht⟩ := hq
              exact .inr ⟨rfl, (x, e) :: q, ⟨t ++ trav M f (kid x e true) (e + 1), by simp [← ht, List.append_assoc]⟩, by simpa [List.append_assoc] using hx4⟩


          · go_ret
            exact .inr ⟨rfl, [(x, e)], ⟨_, rfl⟩, hx1⟩
end Go.Proofs.Ytdhebjeajdohoaa
