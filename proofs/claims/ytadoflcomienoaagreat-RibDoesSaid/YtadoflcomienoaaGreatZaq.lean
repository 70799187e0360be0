/- The order of routes. -/
import Derived.Test.YtadoflcomienoaaGreatZao
import Derived.Test.YtadoflcomienoaaGreatZap
import Derived.Test.YtadoflcomienoaaGreatZak
import Derived.Shelf.SlLaysF0
import Derived.Test.YtadoflcomienoaaGreatProg
import Derived.Test.YtadoflcomienoaaGreatZad
import Derived.Test.YtadoflcomienoaaGreatZan
namespace Go.Proofs.YtadoflcomienoaaGreat
open Go.RowKit

def cmpV (x y : RtV) : Int := or2 (cmpI x.r y.r) (cmpI x.i y.i)
def TwoR (q0 q1 : Nat) (x y : RtV) (w : World) : Prop := w.heap[q0]? = some (.cells #[.int .i64 x.r, .int .u32 (x.k.1 : Int), .int .i64 x.k.2, .int .i64 x.i, .int .i64 x.a.o, .slice x.a.p.a x.a.p.n x.a.p.c, .int .u32 x.a.nx, .int .i64 x.a.md, .int .i64 x.a.pf, .slice x.a.c.a x.a.c.n x.a.c.c] 93) ∧ w.heap[q1]? = some (.cells #[.int .i64 y.r, .int .u32 (y.k.1 : Int), .int .i64 y.k.2, .int .i64 y.i, .int .i64 y.a.o, .slice y.a.p.a y.a.p.n y.a.p.c, .int .u32 y.a.nx, .int .i64 y.a.md, .int .i64 y.a.pf, .slice y.a.c.a y.a.c.n y.a.c.c] 93)
theorem TwoR.cells {q0 q1 : Nat} {x y : RtV} {w : World} (h : TwoR q0 q1 x y w) : w.cell? ⟨q0, 0, none⟩ = some (.int .i64 x.r) ∧ w.cell? ⟨q0, 3, none⟩ = some (.int .i64 x.i) ∧ w.cell? ⟨q1, 0, none⟩ = some (.int .i64 y.r) ∧ w.cell? ⟨q1, 3, none⟩ = some (.int .i64 y.i) := ⟨cell_of h.1 rfl, cell_of h.1 rfl, cell_of h.2 rfl, cell_of h.2 rfl⟩
theorem TwoR.on {q0 q1 : Nat} {x y : RtV} {w w' : World} (h : TwoR q0 q1 x y w) (hb : Below w.heap.size w w') : TwoR q0 q1 x y w' := ⟨(hb.block _ (lt_of_blk h.1)).trans h.1, (hb.block _ (lt_of_blk h.2)).trans h.2⟩
theorem cmpI_lt (a b : Int) : (cmpI a b < 0 ↔ a < b) ∧ (cmpI a b = 0 ↔ a = b) := by unfold cmpI; (repeat' split) <;> omega
theorem cmpV_lt {x y : RtV} : cmpV x y < 0 ↔ x.r < y.r ∨ (x.r = y.r ∧ x.i < y.i) := by
  unfold cmpV or2
  have h1 := cmpI_lt x.r y.r
  have h2 := cmpI_lt x.i y.i
  split <;> omega
theorem swoV : Go.Sort.SWO (Go.Proofs.ltOf cmpV) := by
  have h : ∀ x y : RtV, Go.Proofs.ltOf cmpV x y = decide (x.r < y.r ∨ (x.r = y.r ∧ x.i < y.i)) := by
    intro x y
    unfold Go.Proofs.ltOf
    rw [Bool.eq_iff_iff, decide_eq_true_eq, decide_eq_true_eq]
    exact cmpV_lt
  refine ⟨fun x => by rw [h]; simp, fun x y z h1 h2 => ?_, fun x y z h1 h2 => ?_⟩
  · rw [h, decide_eq_true_eq] at *; omega
  · rw [h, decide_eq_false_iff_not] at *; omega
set_option maxRecDepth 100000 in
set_option maxHeartbeats 1000000 in
theorem cmpV_lays (g n : Nat) (w : World) : Go.Proofs.CmpLays Tryz.prog 87 #[] RRt.cells RRt.k cmpV g 0 n w := by
  intro m os dk _ x y
  generalize Go.Proofs.sortWorldK RRt.cells RRt.k w g 0 m dk os = W
  show Calls Tryz.prog 87 #[.agg #[.int .i64 x.r, .int .u32 (x.k.1 : Int), .int .i64 x.k.2, .int .i64 x.i, .int .i64 x.a.o, .slice x.a.p.a x.a.p.n x.a.p.c, .int .u32 x.a.nx, .int .i64 x.a.md, .int .i64 x.a.pf, .slice x.a.c.a x.a.c.n x.a.c.c], .agg #[.int .i64 y.r, .int .u32 (y.k.1 : Int), .int .i64 y.k.2, .int .i64 y.i, .int .i64 y.a.o, .slice y.a.p.a y.a.p.n y.a.p.c, .int .u32 y.a.nx, .int .i64 y.a.md, .int .i64 y.a.pf, .slice y.a.c.a y.a.c.n y.a.c.c]] W fun e w' => e = .returned (.int .i64 (cmpV x y)) ∧ Grows W w'
  have hg := (((Grows.refl W).alloc (.cells #[.int .i64 x.r, .int .u32 (x.k.1 : Int), .int .i64 x.k.2, .int .i64 x.i, .int .i64 x.a.o, .slice x.a.p.a x.a.p.n x.a.p.c, .int .u32 x.a.nx, .int .i64 x.a.md, .int .i64 x.a.pf, .slice x.a.c.a x.a.c.n x.a.c.c] 93)).alloc (.cells #[.int .i64 y.r, .int .u32 (y.k.1 : Int), .int .i64 y.k.2, .int .i64 y.i, .int .i64 y.a.o, .slice y.a.p.a y.a.p.n y.a.p.c, .int .u32 y.a.nx, .int .i64 y.a.md, .int .i64 y.a.pf, .slice y.a.c.a y.a.c.n y.a.c.c] 93)).drew
  have ht : TwoR W.heap.size (W.heap.size + 1) x y ((W.alloc (.cells #[.int .i64 x.r, .int .u32 (x.k.1 : Int), .int .i64 x.k.2, .int .i64 x.i, .int .i64 x.a.o, .slice x.a.p.a x.a.p.n x.a.p.c, .int .u32 x.a.nx, .int .i64 x.a.md, .int .i64 x.a.pf, .slice x.a.c.a x.a.c.n x.a.c.c] 93)).alloc (.cells #[.int .i64 y.r, .int .u32 (y.k.1 : Int), .int .i64 y.k.2, .int .i64 y.i, .int .i64 y.a.o, .slice y.a.p.a y.a.p.n y.a.p.c, .int .u32 y.a.nx, .int .i64 y.a.md, .int .i64 y.a.pf, .slice y.a.c.a y.a.c.n y.a.c.c] 93)).drew := ⟨hold (hnew _ _), hnewAt (by simp)⟩
  have F0 := Lib.hid (And.intro hg ht)
  have HV := Lib.hid (show or2 (cmpI x.r y.r) (cmpI x.i y.i) = cmpV x y from rfl)
  clear hg ht
  generalize cmpV x y = v at *
  go_enter Tryz.func87, Tryz.ntmps87
  go_wp2_with fail
  refine wp_region_heldP (TwoR W.heap.size (W.heap.size + 1) x y) (by kernel_rfl) ?_
  generalize ((W.alloc (.cells #[.int .i64 x.r, .int .u32 (x.k.1 : Int), .int .i64 x.k.2, .int .i64 x.i, .int .i64 x.a.o, .slice x.a.p.a x.a.p.n x.a.p.c, .int .u32 x.a.nx, .int .i64 x.a.md, .int .i64 x.a.pf, .slice x.a.c.a x.a.c.n x.a.c.c] 93)).alloc (.cells #[.int .i64 y.r, .int .u32 (y.k.1 : Int), .int .i64 y.k.2, .int .i64 y.i, .int .i64 y.a.o, .slice y.a.p.a y.a.p.n y.a.p.c, .int .u32 y.a.nx, .int .i64 y.a.md, .int .i64 y.a.pf, .slice y.a.c.a y.a.c.n y.a.c.c] 93)).drew = W1 at *
  refine held_reads [0, 1, 2, 3, 4, 5, 7, 8, 9, 10, 11, 12] (g := 5) rfl (by kernel_rfl) F0.out.2 (fun _ _ d _ _ h => by cases d <;> exact h) ?_
  simp only [pick, List.getD_cons_zero, List.getD_cons_succ]
  iterate 12 ((with_reducible refine wpRead_step (fun K hK => ?_)); go_simp; first | ((with_reducible refine hK _ ?_); clear hK K) | (apply Exists.intro; (with_reducible refine ⟨fun w' hw' => ?_, hK _ ?_⟩); (obtain ⟨f0, f1, f2, f3⟩ := TwoR.cells hw'; go_simp; first | exact rfl | exact ⟨rfl, rfl⟩); clear hK K))
  with_reducible refine wpRead_nil ?_
  refine held_one 6 (by kernel_rfl) ?_
  simp only [pick, List.getD_cons_zero, List.getD_cons_succ]
  go_wp2_with fail
  refine (cmpi_any _ _ _).mono ?_
  rintro e W2 ⟨rfl, hw⟩
  subst hw
  go_wp2_with fail
  refine ⟨F0.out.2, ?_⟩
  refine held_one 13 (by kernel_rfl) ?_
  simp only [pick, List.getD_cons_zero, List.getD_cons_succ]
  go_wp2_with fail
  refine (cmpi_any _ _ _).mono ?_
  rintro e W2 ⟨rfl, hw⟩
  subst hw
  go_wp2_with fail
  refine ⟨F0.out.2, ?_⟩
  have hal := (Below.refl W2.heap.size W2).alloc (Nat.le_refl _) (.cells #[.int .i64 (cmpI x.r y.r), .int .i64 (cmpI x.i y.i)] 3)
  have hnb : (W2.alloc (.cells #[.int .i64 (cmpI x.r y.r), .int .i64 (cmpI x.i y.i)] 3)).heap[W2.heap.size]? = some (.cells #[.int .i64 (cmpI x.r y.r), .int .i64 (cmpI x.i y.i)] 3) := hnew _ _
  have F1 := Lib.hid (And.intro (F0.out.1.alloc (.cells #[.int .i64 (cmpI x.r y.r), .int .i64 (cmpI x.i y.i)] 3)) (And.intro (F0.out.2.on hal) (show (W2.alloc (.cells #[.int .i64 (cmpI x.r y.r), .int .i64 (cmpI x.i y.i)] 3)).cell? ⟨W2.heap.size, 0, none⟩ = some (.int .i64 (cmpI x.r y.r)) ∧ (W2.alloc (.cells #[.int .i64 (cmpI x.r y.r), .int .i64 (cmpI x.i y.i)] 3)).cell? ⟨W2.heap.size, 1, none⟩ = some (.int .i64 (cmpI x.i y.i)) from ⟨cell_of hnb rfl, cell_of hnb rfl⟩)))
  clear hal hnb F0
  refine held_one 14 (by kernel_rfl) ?_
  simp only [pick, List.getD_cons_zero, List.getD_cons_succ]
  go_wp2_with fail
  generalize W2.alloc (.cells #[.int .i64 (cmpI x.r y.r), .int .i64 (cmpI x.i y.i)] 3) = W3 at *
  generalize W2.heap.size = q2 at *
  refine ⟨F1.out.2.1, ?_⟩
  refine held_one 15 (by kernel_rfl) ?_
  simp only [pick, List.getD_cons_zero, List.getD_cons_succ]
  go_wp2_with fail
  refine (or_any F1.out.2.2).mono ?_
  rintro e W4 ⟨rfl, hw⟩
  subst hw
  rw [HV.out]
  go_wp2_with fail
  refine ⟨F1.out.2.1, ?_⟩
  refine held_one 16 (by kernel_rfl) ?_
  simp only [pick, List.getD_cons_zero, List.getD_cons_succ]
  go_wp2_with fail
  refine ⟨F1.out.2.1, ?_⟩
  refine wpAnyH_done (by kernel_rfl) ?_ _
  go_wp2_with fail
  go_ret
  exact ⟨rfl, F1.out.1⟩
theorem enters_clV : Go.Proofs.Enters Tryz.prog 87 := Go.Proofs.enters_of Tryz.func87 (by decide) rfl
/-- sorted by routers and IDs, what it reads as -/
theorem sorted_rt {L M : List RtV} {k : PK} {S : List Rt} (hS : ROk S) (hL : (L.map RtV.rt).Perm (atP S k)) (hp : M.Perm L) (hs : Rep.SortedBy cmpV M) : M.map RtV.rt = routesR S k := by
  have hpm : (M.map RtV.rt).Perm (atP S k) := (hp.map _).trans hL
  refine sortK_is (hS.rky k) ?_ hpm
  unfold Kl.Ordered
  rw [List.pairwise_map, List.pairwise_iff_getElem]
  intro i j hi hj hij
  have h1 := hs i j hij hj
  simp only [List.getD_eq_getElem?_getD, List.getElem?_eq_getElem hi, List.getElem?_eq_getElem hj, Option.getD_some] at h1
  have h2 : ¬ (cmpV M[j] M[i] < 0) := by omega
  rw [cmpV_lt] at h2
  have hnd : ((M.map RtV.rt).map rky).Nodup := ((hpm.map rky).symm.nodup (hS.rky k))
  rw [List.nodup_iff_pairwise_ne, List.map_map, List.pairwise_map, List.pairwise_iff_getElem] at hnd
  have h3 := hnd i j hi hj hij
  have hr : ∀ x ∈ M, 0 ≤ x.r := fun x hx => by
    have h4 := hpm.mem_iff.1 (List.mem_map_of_mem (f := RtV.rt) hx)
    unfold atP at h4
    exact hS.r _ (List.mem_filter.1 h4).1
  have h5 := hr _ (List.getElem_mem hi)
  have h6 := hr _ (List.getElem_mem hj)
  unfold ltB
  rw [ltK_iff]
  simp only [Function.comp, rky, RtV.rt] at h3 ⊢
  rw [ne_eq, Prod.mk.injEq] at h3
  omega
section
open Go.Shelf Go.Lib Go.Sort
/-- the sort of an owned slice: what else stays -/
theorem sort_ownB {α : Type} [Inhabited α] {R : Rep α} {P : Program} {ρ : Ren} (SL : SlLaysF0.n6 P ρ) (aE : ∀ w, (isAgg (ρ.t 24)).run P w = .ok true w) (zE : ∀ w, (Go.sizeOf (ρ.t 24)).run P w = .ok R.k w) (cf : α → α → Int) (hO : SWO (ltOf cf)) (f : Nat) (cb : Array Value)
    (eg : ∀ args w, (callFunc f args).run P w = .ok (.enter f args) w) {w : World} {base : Nat} {v : Value} {L : List α} (hown : R.Own w base v L) (hcmp : ∀ g, Go.Proofs.CmpLays P f cb R.cells R.k cf g 0 L.length w) (hsz : L.length < 4611686018427387904) (_hbase : base ≤ w.heap.size) :
    Calls P (ρ.f 6) #[v, .func (.func f) #[] cb] w fun e w' => e = .returned (.tuple #[]) ∧ ∃ M, M.Perm L ∧ Rep.SortedBy cf M ∧ R.Own w' base v M ∧ w.grownBy w' v.ownBlock := by
  rcases hown.cases with ⟨rfl, rfl⟩ | ⟨g, cap, rfl, hg, hl, -⟩
  · exact (AnyF.slices_SortFunc_none SL none 0 (.func (.func f) #[] cb) w).mono fun e w' ⟨h1, h2⟩ => ⟨h1, [], List.Perm.refl _, fun i j _ hj => absurd hj (by simp), h2 ▸ hown, h2 ▸ World.grownBy.refl _ _⟩
  · have h := AnyQ.slices_SortFunc SL R.k aE zE R.cells R.len (fun x u hu => List.all_eq_true.1 (R.one x) u hu) cf hO f cb g 0 cap L.toArray w eg (by simpa using hcmp g) (Rep.holds_own hown) hl (by simpa using hsz)
    rw [List.size_toArray] at h
    refine h.mono fun e w' ⟨h1, d', n, os, hp, hs, hw⟩ => ⟨h1, d'.toList, ?_, ?_, ?_⟩
    · have := hp.2.2
      have h0 : d'.size = L.length := by simpa using hp.1
      simp only [Array.toList_extract, List.extract_eq_take_drop, Nat.sub_zero, List.drop_zero] at this
      rwa [List.take_of_length_le (by simp [h0]), List.take_of_length_le (by simp)] at this
    · intro i j hij hj
      have h0 : d'.size = L.length := by simpa using hp.1
      have := hs i j (Nat.zero_le _) hij (by simpa [h0] using hj)
      unfold Go.Proofs.ltOf at this
      have e1 := Rep.getB d'.toList i
      have e2 := Rep.getB d'.toList j
      rw [← e1, ← e2]
      simp only [Array.toArray_toList]
      simpa using this
    · have h0 : d'.toList.length = L.length := by simpa using hp.1
      have := Rep.own_sorted (n := n) (os := os) hown h0
      simp only [Array.toArray_toList] at this
      rw [← hw] at this
      have hB := this.2.1
      exact ⟨this.1, hB.os, hB.tape, hB.output, hB.size, fun k hk hne => hB.block k hk (fun hm => hne (by rw [List.mem_singleton] at hm; rw [hm]; rfl))⟩
end
end Go.Proofs.YtadoflcomienoaaGreat
/- What is said, in order. -/
namespace Go.Proofs.YtadoflcomienoaaGreat
open Go.RowKit
open Go.ChangeMaps (setBlock)

theorem Ran_len {κ : Type} {l done : List (MR.Ent κ)} {seen : Array Nat} (h : MR.Ran l seen done) (hb : (l.map (·.2.2)).Nodup) : done.length ≤ l.length ∧ seen.size = done.length := by
  refine ⟨?_, by have := congrArg List.length h.seen; simpa using this⟩
  have h1 : done.length ≤ (l.filter fun e => decide (e.2.2 ∈ done.map (·.2.2))).length := by
    have hp : done.Perm (l.filter fun e => decide (e.2.2 ∈ done.map (·.2.2))) := by
      rw [List.perm_ext_iff_of_nodup (MR.nodup_of_map h.nodup) ((MR.nodup_of_map hb).filter _)]
      intro e
      rw [List.mem_filter, decide_eq_true_eq]
      constructor
      · intro he; exact ⟨h.sub e he, List.mem_map.2 ⟨e, he, rfl⟩⟩
      · rintro ⟨h1, h2⟩
        obtain ⟨x, hx, hxe⟩ := List.mem_map.1 h2
        rw [← MR.inj_of_nodup hb (h.sub x hx) h1 hxe]
        exact hx
    exact Nat.le_of_eq hp.length_eq
  exact Nat.le_trans h1 (List.length_filter_le _ _)
end Go.Proofs.YtadoflcomienoaaGreat
/- Routes of a prefix. -/
namespace Go.Proofs.YtadoflcomienoaaGreat
open Go.RowKit
open Go.ChangeMaps (setBlock)

structure TpS (R : Rb) (n : Nat) (asn room nn ref : Int) (f : Int → Int) (q4 : Nat) (k : PK) (W : World) : Prop where
  blk : W.heap[R.b]? = some (.cells #[.pointer (some ⟨R.bt, 0, none⟩), .int .i64 asn, .int .i64 room, .int .i64 nn, .int .i64 ref, .map (some R.bo)] 120)
  tr : Tm.TrieM W R.bt R.N n R.M
  of : OfAt W R.bo f
  p : W.heap[q4]? = some (.cells #[.int .u32 (k.1 : Int), .int .i64 k.2] 58)
theorem TpS.keep {R : Rb} {n : Nat} {asn room nn ref : Int} {f : Int → Int} {q4 : Nat} {k : PK} {W W' : World} (h : TpS R n asn room nn ref f q4 k W) (hb : Below W.heap.size W W') : TpS R n asn room nn ref f q4 k W' :=
  ⟨(hb.block _ (lt_of_blk h.blk)).trans h.blk, h.tr.below hb, h.of.on (hb.block _ h.of.lt), (hb.block _ (lt_of_blk h.p)).trans h.p⟩
/-- a route that may be -/
structure RtOk (w : World) (x : RtV) : Prop where
  k : KOk x.r x.k x.i
  a : AtOk w x.a
/-- routes of the call's own -/
structure RtsOk (w : World) (B : Nat) (s : SlV RtV) : Prop where
  sl : SlOk RRt RtOk w s
  new : NewS B s
  newA : ∀ y ∈ s.l, NewA B y.a
theorem RtOk.keep {w w' : World} {x : RtV} (h : RtOk w x) (hb : Below w.heap.size w w') : RtOk w' x := ⟨h.k, h.a.keep hb⟩
theorem RtsOk.keep {w w' : World} {B : Nat} {s : SlV RtV} (h : RtsOk w B s) (hb : Below w.heap.size w w') : RtsOk w' B s := ⟨h.sl.keep hb fun _ _ h => h.keep hb, h.new, h.newA⟩
structure RtS (q4 q8 q9 : Nat) (k : PK) (x : RtV) (W : World) : Prop where
  p : W.heap[q4]? = some (.cells #[.int .u32 (k.1 : Int), .int .i64 k.2] 58)
  h : W.heap[q8]? = some (.cells #[.int .i64 x.r, .int .i64 x.i] 129)
  b : BxA q9 x.a W
theorem RtS.keep {q4 q8 q9 : Nat} {k : PK} {x : RtV} {W W' : World} (h : RtS q4 q8 q9 k x W) (hb : Below W.heap.size W W') : RtS q4 q8 q9 k x W' :=
  ⟨(hb.block _ (lt_of_blk h.p)).trans h.p, (hb.block _ (lt_of_blk h.h)).trans h.h, h.b.keep hb⟩
theorem atP_map (G : List RtV) (k : PK) : atP (G.map RtV.rt) k = (atV G k).map RtV.rt := by
  unfold atP atV
  rw [List.filter_map]
  rfl
theorem RibAt.rok {w : World} {R : Rb} {X : Nat → Prop} {n : Nat} {asn room ref : Int} {G : List RtV} (H : RibAt w R X n asn room ref G) : ROk (G.map RtV.rt) := by
  refine ⟨?_, fun x hx => ?_⟩
  · rw [List.map_map]
    exact H.nd
  · obtain ⟨y, hy, rfl⟩ := List.mem_map.1 hx
    exact (H.okx y hy).r.1
theorem OwnP.sorted {α : Type} [Inhabited α] {R : Rep α} {P : World → α → Prop} {w w' : World} {base : Nat} {v : Value} {L M : List α} (h : OwnP R P w base v L) (ho : R.Own w' base v M) (hp : M.Perm L) (hg : w.grownBy w' v.ownBlock) : OwnP R P w' base v M :=
  ⟨ho, fun x hx => (h.el x (hp.mem_iff.1 hx)).turn hg fun _ _ e => e⟩
/-- a route of the call's own, against a block that may turn -/
structure EOk (B : Nat) (g : Option Nat) (w : World) (y : RtV) : Prop where
  k : KOk y.r y.k y.i
  a : AtOk w y.a
  new : NewA B y.a
  far : FarA g y.a
theorem EOk.below {B : Nat} {g : Option Nat} {w w' : World} {y : RtV} (h : EOk B g w y) (hb : Below w.heap.size w w') : EOk B g w' y := ⟨h.k, h.a.keep hb, h.new, h.far⟩
theorem EOk.set {B q : Nat} {g : Option Nat} {w w' : World} {y : RtV} {o : Obj} (h : EOk B g w y) (hs : SetB w w' q o) (hq : q < B) : EOk B g w' y :=
  ⟨h.k, (h.a.hold (h.new.out (F := fun k => k = q) fun k e => by omega)) w' (by rw [hs.size]; exact Nat.le_refl _) fun k _ hn => hs.other hn, h.new, h.far⟩
theorem EOk.grown {B : Nat} {g g' : Option Nat} {w w' : World} {y : RtV} (h : EOk B g w y) (hg : w.grownBy w' g) (hf : g' = g ∨ g' = some w.heap.size) : EOk B g' w' y :=
  ⟨h.k, (h.a.firm h.far) w' hg, h.new, by
    rcases hf with e | e
    · rw [e]; exact h.far
    · exact (h.a.low.ap (hi := w.heap.size + 1)).far fun k hk => by rw [e] at hk; injection hk with hk; omega⟩
set_option maxRecDepth 100000 in
set_option maxHeartbeats 8000000 in
theorem routes_any {w : World} {R : Rb} {X : Nat → Prop} {n : Nat} {asn room ref : Int} {G : List RtV} (H : RibAt w R X n asn room ref G) {k : PK} (hk : k.1 < 4294967296 ∧ I64 k.2) (hG : G.length ≤ 4000000) : Calls Tryz.prog 32 #[.pointer (some ⟨R.b, 0, none⟩), pfx k.1 k.2] w fun e w' => ∃ s : SlV RtV, e = .returned (.slice s.a s.n s.c) ∧ RtsOk w' w.heap.size s ∧ s.l.map RtV.rt = routesR (G.map RtV.rt) k ∧ Below w.heap.size w w' := by
  have hal := (Below.refl w.heap.size w).alloc (Nat.le_refl _) (.cells #[.int .u32 (k.1 : Int), .int .i64 k.2] 58)
  have hp : (w.alloc (.cells #[.int .u32 (k.1 : Int), .int .i64 k.2] 58)).heap[w.heap.size]? = some (.cells #[.int .u32 (k.1 : Int), .int .i64 k.2] 58) := hnew _ _
  have HMD := Lib.hid (made_any14 (H.below hal))
  have hdr := (Below.refl (w.alloc (.cells #[.int .u32 (k.1 : Int), .int .i64 k.2] 58)).heap.size (w.alloc (.cells #[.int .u32 (k.1 : Int), .int .i64 k.2] 58))).drew
  have h0 : TpS R n asn room (G.length : Int) ref (cntV G) w.heap.size k (w.alloc (.cells #[.int .u32 (k.1 : Int), .int .i64 k.2] 58)) := ⟨(hal.block _ (lt_of_blk H.blk)).trans H.blk, H.tr.below hal, H.of.on (hal.block _ H.of.lt), hp⟩
  have F1 := Lib.hid (And.intro (bcall hal (Nat.le_refl _) hdr) (h0.keep hdr))
  have hgm := Tm.getM_any F1.out.2.tr k.1 k.2 hk.1
  have HH := Lib.hid (And.intro H (And.intro hk hG))
  clear hal hp hdr h0 H hk hG
  unfold pfx at hgm ⊢
  obtain ⟨nn, hnn⟩ : ∃ z : Int, (G.length : Int) = z := ⟨_, rfl⟩
  rw [hnn] at F1
  clear hnn
  cases hM : look R.M k.1 k.2 with
  | none =>
    rw [hM] at hgm
    simp only [Option.getD_none, Option.isSome_none] at hgm
    have HGM := Lib.hid hgm
    have HE := Lib.hid (show routesR (G.map RtV.rt) k = [] from by
      have h1 : atV G k = [] := by
        rw [List.eq_nil_iff_forall_not_mem]
        intro x hx
        obtain ⟨h1, h2⟩ := mem_atV.1 hx
        have h3 := HH.out.1.all x h1
        have h4 := (HH.out.1.okx x h1).p
        rw [h2] at h3 h4
        unfold look at hM
        rw [h4, if_pos rfl] at hM
        rw [hM] at h3
        cases h3
      unfold routesR
      rw [atP_map, h1]
      rfl)
    clear hM hgm
    go_enter Tryz.func32, Tryz.ntmps32
    go_wp2_with fail
    refine (HMD.out).mono ?_
    rintro e W9 ⟨rfl, hw⟩
    have hw := hw.symm
    subst hw
    clear HMD
    go_wp2_with fail
    refine wp_region_heldP (TpS R n asn room nn ref (cntV G) w.heap.size k) (by kernel_rfl) ?_
    generalize (w.alloc (.cells #[.int .u32 (k.1 : Int), .int .i64 k.2] 58)).drew = V at *
    refine held_reads [0, 1, 2, 3, 4] (g := 6) rfl (by kernel_rfl) F1.out.2 (fun _ _ d _ _ h => by cases d <;> exact h) ?_
    simp only [pick, List.getD_cons_zero, List.getD_cons_succ]
    iterate 4 ((with_reducible refine wpRead_step (fun K hK => ?_)); go_simp; first | ((with_reducible refine hK _ ?_); clear hK K) | (apply Exists.intro; (with_reducible refine ⟨fun w' hw' => ?_, hK _ ?_⟩); ((have f0 : w'.cell? ⟨R.b, 0, none⟩ = _ := cell_of hw'.blk rfl; go_simp; first | exact rfl | exact ⟨rfl, rfl⟩)); clear hK K))
    with_reducible refine wpRead_yes ?_ ?_
    rotate_left
    rfl
    intro K hK
    refine read_load 58 _ rfl w.heap.size 0 #[.int .u32 (k.1 : Int), .int .i64 k.2] rfl (fun w' hw' => rangeAt_block hw'.p 0 _ rfl) Tryz.underlying58 rfl (by kernel_rfl) (hK _ ?_)
    clear hK K
    with_reducible refine wpRead_nil ?_
    refine held_one 5 (by kernel_rfl) ?_
    simp only [pick, List.getD_cons_zero, List.getD_cons_succ]
    go_wp2_with fail
    refine (HGM.out).mono ?_
    rintro e W2 ⟨rfl, hb⟩
    have F2 := Lib.hid (And.intro (bcall F1.out.1 (Nat.le_refl _) hb) (F1.out.2.keep hb))
    clear hb F1 HGM
    go_wp2_with fail
    refine ⟨F2.out.2, ?_⟩
    refine held_reads [6, 7, 8, 9, 10] (g := 0) rfl (by kernel_rfl) F2.out.2 (fun _ _ d _ _ h => by cases d <;> exact h) ?_
    simp only [pick, List.getD_cons_zero, List.getD_cons_succ]
    iterate 5 ((with_reducible refine wpRead_step (fun K hK => ?_)); go_simp; first | ((with_reducible refine hK _ ?_); clear hK K) | (apply Exists.intro; (with_reducible refine ⟨fun w' hw' => ?_, hK _ ?_⟩); (first | exact rfl | exact ⟨rfl, rfl⟩); clear hK K))
    with_reducible refine wpRead_nil ?_
    refine wpAnyH_done (by kernel_rfl) ?_ _
    have hrg := Go.run_range_nilMap (P := Tryz.prog) W2 117 _ _ Tryz.underlying117
    have hnx := fun ty => Go.run_next_nilMap (P := Tryz.prog) W2 ty 0 0 #[]
    have hal := (Below.refl W2.heap.size W2).alloc (Nat.le_refl _) (.mapIter none 0 #[] 0)
    have HS := Lib.hid (sort_ownB (R := RRt) sortRt Tryz.isAgg93 Tryz.sizeOf93 cmpV swoV 87 #[] enters_clV (Rep.Own.nil (W2.alloc (.mapIter none 0 #[] 0)) 0) (fun g => cmpV_lays g _ _) (by simp) (Nat.zero_le _))
    have F3 := Lib.hid (bcall F2.out.1 (Nat.le_refl _) hal)
    clear hal F2
    go_wp2_with fail
    go_loopw [7] (fun ov wr => ov = .slice none 0 0 ∧ wr = W2.alloc (.mapIter none 0 #[] 0)) (fun _ _ => 0)
    case atStart => exact ⟨rfl, rfl⟩
    case round =>
      obtain ⟨rfl, rfl⟩ := hrel
      go_wp2_with fail
      refine (HS.out).mono ?_
      rintro ev w9 ⟨rfl, M, hp, -, hown, hg⟩
      have FE := Lib.hid (F3.out.trans ((grown_below hg (Nat.le_refl _) (fun k e => by cases e)).mono F3.out.size))
      clear hp hown hg HS F3 hnx hrg
      go_wp2_with fail
      go_ret
      exact ⟨⟨none, 0, 0, []⟩, rfl, ⟨slZ, (fun _ _ e => by cases e), fun y hy => by cases hy⟩, HE.out.symm, FE.out⟩
  | some y =>
    have hkp : k = pkN k.1 k.2.toNat ∧ R.M k.1 k.2.toNat = some y := by
      unfold look at hM
      split at hM
      · rename_i hok
        have h1 := okP_iff.1 hok
        refine ⟨?_, hM⟩
        obtain ⟨a, l⟩ := k
        unfold pkN
        dsimp only at *
        rw [Int.toNat_of_nonneg h1.1]
      · cases hM
    obtain ⟨m, rfl, hpm, hne⟩ := HH.out.1.mp _ _ y hkp.2
    rw [← hkp.1] at hpm hne
    rw [hM] at hgm
    simp only [Option.getD_some, Option.isSome_some] at hgm
    have HGM := Lib.hid hgm
    obtain ⟨L, hL⟩ : ∃ L, atV G k = L := ⟨_, rfl⟩
    rw [hL] at hpm
    have hlm := hpm.lt
    obtain ⟨clk, es, k2, k3⟩ := hpm
    have HLE := Lib.hid (show es.length ≤ 4000000 from by
      rw [k3.len, ← hL]
      exact Nat.le_trans (List.length_filter_le _ _) HH.out.2.2)
    have HF := Lib.hid (And.intro k2 (And.intro k3 hlm))
    have HL := Lib.hid hL
    clear hM hgm hne hkp k2 k3 hlm hL
    go_enter Tryz.func32, Tryz.ntmps32
    go_wp2_with fail
    refine (HMD.out).mono ?_
    rintro e W9 ⟨rfl, hw⟩
    have hw := hw.symm
    subst hw
    clear HMD
    go_wp2_with fail
    refine wp_region_heldP (TpS R n asn room nn ref (cntV G) w.heap.size k) (by kernel_rfl) ?_
    generalize (w.alloc (.cells #[.int .u32 (k.1 : Int), .int .i64 k.2] 58)).drew = V at *
    refine held_reads [0, 1, 2, 3, 4] (g := 6) rfl (by kernel_rfl) F1.out.2 (fun _ _ d _ _ h => by cases d <;> exact h) ?_
    simp only [pick, List.getD_cons_zero, List.getD_cons_succ]
    iterate 4 ((with_reducible refine wpRead_step (fun K hK => ?_)); go_simp; first | ((with_reducible refine hK _ ?_); clear hK K) | (apply Exists.intro; (with_reducible refine ⟨fun w' hw' => ?_, hK _ ?_⟩); ((have f0 : w'.cell? ⟨R.b, 0, none⟩ = _ := cell_of hw'.blk rfl; go_simp; first | exact rfl | exact ⟨rfl, rfl⟩)); clear hK K))
    with_reducible refine wpRead_yes ?_ ?_
    rotate_left
    rfl
    intro K hK
    refine read_load 58 _ rfl w.heap.size 0 #[.int .u32 (k.1 : Int), .int .i64 k.2] rfl (fun w' hw' => rangeAt_block hw'.p 0 _ rfl) Tryz.underlying58 rfl (by kernel_rfl) (hK _ ?_)
    clear hK K
    with_reducible refine wpRead_nil ?_
    refine held_one 5 (by kernel_rfl) ?_
    simp only [pick, List.getD_cons_zero, List.getD_cons_succ]
    go_wp2_with fail
    refine (HGM.out).mono ?_
    rintro e W2 ⟨rfl, hb⟩
    have F2 := Lib.hid (And.intro (bcall F1.out.1 (Nat.le_refl _) hb) (F1.out.2.keep hb))
    clear hb F1 HGM
    go_wp2_with fail
    refine ⟨F2.out.2, ?_⟩
    refine held_reads [6, 7, 8, 9, 10] (g := 0) rfl (by kernel_rfl) F2.out.2 (fun _ _ d _ _ h => by cases d <;> exact h) ?_
    simp only [pick, List.getD_cons_zero, List.getD_cons_succ]
    iterate 5 ((with_reducible refine wpRead_step (fun K hK => ?_)); go_simp; first | ((with_reducible refine hK _ ?_); clear hK K) | (apply Exists.intro; (with_reducible refine ⟨fun w' hw' => ?_, hK _ ?_⟩); (first | exact rfl | exact ⟨rfl, rfl⟩); clear hK K))
    with_reducible refine wpRead_nil ?_
    refine wpAnyH_done (by kernel_rfl) ?_ _
    have k2 : MR.MapAt QN W2 m es clk := HF.out.1.blk_iff QN (F2.out.1.block _ HF.out.2.2)
    have hrg := MR.run_range QN k2 Tryz.underlying117
    have hal := (Below.refl W2.heap.size W2).alloc (Nat.le_refl _) (.mapIter (some m) clk #[] clk)
    have hit : (W2.alloc (.mapIter (some m) clk #[] clk)).heap[W2.heap.size]? = some (.mapIter (some m) clk #[] clk) := hnew _ _
    have hkx : ∀ x ∈ L, KOk x.r k x.i ∧ HoldF (R.FX X) w (fun W => AtOk W x.a) ∧ SmA x.a ∧ x.k = k := fun x hx => by
      rw [← HL.out] at hx
      obtain ⟨h1, h2⟩ := mem_atV.1 hx
      have h3 := HH.out.1.okx x h1
      rw [h2] at h3
      exact ⟨h3, HH.out.1.far x h1, HH.out.1.sm x h1, h2⟩
    have HKX := Lib.hid hkx
    have HW := Lib.hid (And.intro (bcall F2.out.1 (Nat.le_refl _) hal) (And.intro hit (And.intro (show W2.heap.size + 1 ≤ (W2.alloc (.mapIter (some m) clk #[] clk)).heap.size by simp) (And.intro F2.out.1.size (F2.out.2.keep hal).p))))
    clear hkx k2 hal hit F2
    go_wp2_with fail
    clear hrg
    generalize W2.alloc (.mapIter (some m) clk #[] clk) = W3 at *
    generalize W2.heap.size = qi at *
    go_loopw [7] (fun ov wr => ∃ (done : List (MR.Ent QK)) (seen : Array Nat) (M : List RtV), RRt.Own wr (qi + 1) ov M ∧ M.map RtV.rt = (done.map (Kl.ofE RtV.pi L)).map RtV.rt ∧ (∀ y ∈ M, EOk (qi + 1) ov.ownBlock wr y) ∧ wr.heap[qi]? = some (.mapIter (some m) clk seen clk) ∧ MR.Ran es seen done ∧ Below w.heap.size w wr ∧ qi + 1 ≤ wr.heap.size ∧ wr.heap[w.heap.size]? = some (.cells #[.int .u32 (k.1 : Int), .int .i64 k.2] 58)) (fun _ wr => es.length - seenN wr qi)
    case atStart => exact ⟨[], #[], [], Rep.Own.nil _ _, rfl, (fun y hy => by cases hy), HW.out.2.1, MR.Ran.none _, HW.out.1, HW.out.2.2.1, HW.out.2.2.2.2⟩
    case round =>
      obtain ⟨done, seen, M, hown, hmp, hna, hit, hran, hb, hsz, hkb⟩ := hrel
      obtain ⟨w2, rfl⟩ : ∃ w2 : World, w2 = wr := ⟨_, rfl⟩
      have hm2 : MR.MapAt QN w2 m es clk := HF.out.1.blk_iff QN (hb.block _ HF.out.2.2)
      obtain ⟨hdl, hsd⟩ := Ran_len hran HF.out.1.bnodup
      obtain ⟨oa, cc, rfl, -, -⟩ := hown.sl0
      rcases MR.next_step QN hm2 hit 0 with ⟨hall, hnx⟩ | ⟨e, hein, hens, w3, hnx, hset⟩
      · have hpe := ((hran.all HF.out.1.bnodup hall).map (Kl.ofE RtV.pi L)).trans HF.out.2.1.perm
        have hMp : (M.map RtV.rt).Perm (atP (G.map RtV.rt) k) := by
          rw [hmp, atP_map, HL.out]
          exact hpe.map _
        have hln : M.length < 4611686018427387904 := by
          have h1 := congrArg List.length hmp
          rw [List.length_map, List.length_map, List.length_map] at h1
          have := HLE.out
          omega
        have HS := Lib.hid (sort_ownB (R := RRt) sortRt Tryz.isAgg93 Tryz.sizeOf93 cmpV swoV 87 #[] enters_clV hown (fun g => cmpV_lays g _ _) hln hsz)
        have G2 := Lib.hid (And.intro hMp (And.intro hb (And.intro hown (And.intro hna hsz))))
        generalize M.length = ml at *
        clear hown hm2 hit hran hb hdl hsd hall hpe hln hMp hmp hna hkb hsz
        go_wp2_with fail
        refine HS.out.mono ?_
        rintro ev w9 ⟨rfl, M2, hp, hs, hown9, hg9⟩
        have HE := Lib.hid (And.intro hown9 (And.intro (sorted_rt HH.out.1.rok G2.out.1 hp hs) (And.intro hp (show Below w.heap.size w w9 from G2.out.2.1.trans (grown_below hg9 G2.out.2.1.size (fun g e => by
          have h1 := (World.ownsRow.lt G2.out.2.2.1 g e).1
          have h2 := HW.out.2.2.2.1
          omega))))))
        have HE2 := Lib.hid (fun y hy => (G2.out.2.2.2.1 y (hp.mem_iff.1 hy)).grown hg9 (.inl rfl))
        clear hp hs hown9 hg9 HS
        go_wp2_with fail
        go_ret
        obtain ⟨s9, hs1, hs2, hs3, hs4, -⟩ := Own_slok (ok := RtOk) HE.out.1 (fun y hy => ⟨(HE2.out y hy).k, (HE2.out y hy).a⟩)
        refine ⟨s9, congrArg Ending.returned hs1, ⟨hs3, fun hn a ea => ?_, fun y hy => ?_⟩, ?_, HE.out.2.2.2⟩
        · exact Nat.le_trans HW.out.2.2.2.1 (Nat.le_trans (Nat.le_succ _) (hs4 hn a ea))
        · rw [hs2] at hy
          have h1 := (HE2.out y hy).new
          have h2 := HW.out.2.2.2.1
          exact ⟨fun hn a e => by have := h1.p hn a e; omega, fun hn a e => by have := h1.c hn a e; omega, fun z hz hn a e => by have := h1.s z hz hn a e; omega⟩
        · rw [hs2]; exact HE.out.2.1
      · have hmq : m ≠ qi := by have h1 := HF.out.2.2; have h2 := HW.out.2.2.2.1; omega
        have hm3 := hm2.blk_iff QN (hset.other hmq)
        have hen := MR.run_entry QN hm3 hein (hset.at hsz)
        have hent0 := HF.out.2.1.ent hein
        have hxk := HKX.out _ hent0.2.2.2
        rw [hent0.2.1] at hnx hen
        rw [← hent0.2.2.1] at hen
        have hown3 := Rep.Own.but hown (But.of_set hset (bs := [qi]) (by simp)) (by simp)
        have hna3 : ∀ y ∈ M, EOk (qi + 1) (Value.ownBlock (.slice oa M.length cc)) w3 y := fun y hy => (hna y hy).set hset (Nat.lt_succ_self _)
        have hb3 : Below w.heap.size w w3 := hb.trans (hset.below HW.out.2.2.2.1)
        have hwq : w.heap.size ≠ qi := by
          intro e
          rw [e, hit] at hkb
          cases hkb
        have hkb3 := (hset.other hwq).trans hkb
        have hr3 := hran.more hein hens
        have hit3 := hset.at hsz
        have hs3 : qi + 1 ≤ w3.heap.size := by rw [hset.size]; exact hsz
        have hms : seenN w2 qi = seen.size := seenN_of hit
        have hdl3 := (Ran_len hr3 HF.out.1.bnodup)
        have hme : (done ++ [e]).map (Kl.ofE RtV.pi L) = done.map (Kl.ofE RtV.pi L) ++ [Kl.ofE RtV.pi L e] := by rw [List.map_append]; rfl
        obtain ⟨ml, hml⟩ : ∃ z, M.length = z := ⟨_, rfl⟩
        have hmd : ml = done.length := by
          have h1 := congrArg List.length hmp
          rw [List.length_map, List.length_map, List.length_map] at h1
          omega
        rw [hml] at hown3 hna3 ⊢
        have HG := Lib.hid (And.intro hown3 (And.intro hna3 (And.intro hr3 (And.intro hb3 (And.intro hs3 (And.intro hit3 (And.intro hkb3 (And.intro hme (And.intro hdl3 (And.intro hms (And.intro hmp (And.intro hml hmd))))))))))))
        generalize Kl.ofE RtV.pi L e = x at *
        have HX := Lib.hid hxk
        have hke : QN.enc x.pi = .agg #[.int .i64 x.r, .int .i64 x.i] := rfl
        rw [hke] at hen
        obtain ⟨ke, hkv⟩ : ∃ v, QN.enc e.1 = v := ⟨_, rfl⟩
        try rw [hkv] at hnx
        unfold AtV.v at hnx hen
        clear hown hna hran hb hdl hsd hm2 hit hm3 hset hens hown3 hna3 hr3 hb3 hs3 hit3 hme hdl3 hein hent0 hms hml hmd hmp hke hkv hkb hkb3 hwq hmq hxk hsz
        go_wp2_with (with_reducible refine halt_store 129 (x := .tmp 8) rfl ?_)
        refine Halted.go ?_
        have hal := ((Below.refl w3.heap.size w3).alloc (Nat.le_refl _) (.cells #[.int .i64 0, .int .i64 0] 129)).alloc (by simp) (.cells #[.int .i64 0, .slice none 0 0, .int .u32 0, .int .i64 0, .int .i64 0, .slice none 0 0] 40)
        have h4 : ((w3.alloc (.cells #[.int .i64 0, .int .i64 0] 129)).alloc (.cells #[.int .i64 0, .slice none 0 0, .int .u32 0, .int .i64 0, .int .i64 0, .slice none 0 0] 40)).heap[w3.heap.size]? = some (.cells #[.int .i64 0, .int .i64 0] 129) := hold (hnew _ _)
        have h5 : ((w3.alloc (.cells #[.int .i64 0, .int .i64 0] 129)).alloc (.cells #[.int .i64 0, .slice none 0 0, .int .u32 0, .int .i64 0, .int .i64 0, .slice none 0 0] 40)).heap[w3.heap.size + 1]? = some (.cells #[.int .i64 0, .slice none 0 0, .int .u32 0, .int .i64 0, .int .i64 0, .slice none 0 0] 40) := hnewAt (by simp)
        refine store_whole rfl 129 _ _ rfl w3.heap.size #[.int .i64 x.r, .int .i64 x.i] rfl rfl h4 rfl (by kernel_rfl) (by simp [Value.oneCell']) ?_
        intro wy hwy hsy
        have h5' : wy.heap[w3.heap.size + 1]? = some (.cells #[.int .i64 0, .slice none 0 0, .int .u32 0, .int .i64 0, .int .i64 0, .slice none 0 0] 40) := (hsy.other (by omega)).trans h5
        have HY := Lib.hid (And.intro (hal.trans (hsy.below (Nat.le_refl _))) (And.intro hwy h5'))
        clear hal h4 h5 hwy hsy h5'
        go_wp2_with (with_reducible refine halt_store 40 (x := .tmp 9) rfl ?_)
        refine Halted.go ?_
        refine store_whole rfl 40 _ _ rfl (w3.heap.size + 1) #[.int .i64 x.a.o, .slice x.a.p.a x.a.p.n x.a.p.c, .int .u32 x.a.nx, .int .i64 x.a.md, .int .i64 x.a.pf, .slice x.a.c.a x.a.c.n x.a.c.c] rfl rfl HY.out.2.2 rfl (by kernel_rfl) (by simp [Value.oneCell']) ?_
        intro wz hwz hsz
        have hzb : Below w3.heap.size w3 wz := HY.out.1.trans (hsz.below (Nat.le_succ _))
        have hwy := (hsz.other (show w3.heap.size ≠ w3.heap.size + 1 by omega)).trans HY.out.2.1
        have hdr := (Below.refl wz.heap.size wz).drew
        have hzd : Below w3.heap.size w3 wz.drew := bcall hzb (Nat.le_refl _) hdr
        have HZ := Lib.hid (And.intro hzd (show RtS w.heap.size w3.heap.size (w3.heap.size + 1) k x wz.drew from ⟨(hzd.block _ (lt_of_blk HG.out.2.2.2.2.2.2.1)).trans HG.out.2.2.2.2.2.2.1, hwy, hwz⟩))
        have HC := rcopyOf_any (x := x.a) (HX.out.2.1.now.keep (bcall HG.out.2.2.2.1 (Nat.le_refl _) hzd)) HX.out.2.2.1
        unfold AtV.v at HC
        have HC := Lib.hid HC
        clear hwz hsz hzb hwy hdr hzd HY hen hnx
        go_wp2_with fail
        refine wp_region_heldP (RtS w.heap.size w3.heap.size (w3.heap.size + 1) k x) (by kernel_rfl) ?_
        generalize wz.drew = V at *
        refine held_reads [0, 1, 2, 3, 4, 5, 6, 7] (g := 5) rfl (by kernel_rfl) HZ.out.2 (fun _ _ d _ _ h => by cases d <;> exact h) ?_
        simp only [pick, List.getD_cons_zero, List.getD_cons_succ]
        iterate 3 ((with_reducible refine wpRead_step (fun K hK => ?_)); go_simp; first | ((with_reducible refine hK _ ?_); clear hK K) | (apply Exists.intro; (with_reducible refine ⟨fun w' hw' => ?_, hK _ ?_⟩); ((have f0 : w'.cell? ⟨w3.heap.size, 0, none⟩ = _ := cell_of hw'.h rfl; have f1 : w'.cell? ⟨w3.heap.size, 1, none⟩ = _ := cell_of hw'.h rfl; go_simp; first | exact rfl | exact ⟨rfl, rfl⟩)); clear hK K))
        with_reducible refine wpRead_yes ?_ ?_
        rotate_left
        rfl
        intro K hK
        refine read_load 58 _ rfl w.heap.size 0 #[.int .u32 (k.1 : Int), .int .i64 k.2] rfl (fun w' hw' => rangeAt_block hw'.p 0 _ rfl) Tryz.underlying58 rfl (by kernel_rfl) (hK _ ?_)
        clear hK K
        iterate 3 ((with_reducible refine wpRead_step (fun K hK => ?_)); go_simp; first | ((with_reducible refine hK _ ?_); clear hK K) | (apply Exists.intro; (with_reducible refine ⟨fun w' hw' => ?_, hK _ ?_⟩); ((have f0 : w'.cell? ⟨w3.heap.size, 0, none⟩ = _ := cell_of hw'.h rfl; have f1 : w'.cell? ⟨w3.heap.size, 1, none⟩ = _ := cell_of hw'.h rfl; go_simp; first | exact rfl | exact ⟨rfl, rfl⟩)); clear hK K))
        with_reducible refine wpRead_yes ?_ ?_
        rotate_left
        rfl
        intro K hK
        refine read_load 40 _ rfl (w3.heap.size + 1) 0 #[.int .i64 x.a.o, .slice x.a.p.a x.a.p.n x.a.p.c, .int .u32 x.a.nx, .int .i64 x.a.md, .int .i64 x.a.pf, .slice x.a.c.a x.a.c.n x.a.c.c] rfl (fun w' hw' => rangeAt_block hw'.b 0 _ rfl) Tryz.underlying40 rfl (by kernel_rfl) (hK _ ?_)
        clear hK K
        with_reducible refine wpRead_nil ?_
        refine held_one 8 (by kernel_rfl) ?_
        simp only [pick, List.getD_cons_zero, List.getD_cons_succ]
        go_wp2_with fail
        refine (HC.out).mono ?_
        rintro e2 W5 ⟨y, rfl, hy1, hy2, hy3, hb5⟩
        have HV := Lib.hid (And.intro (bcall HZ.out.1 (Nat.le_refl _) hb5) (And.intro (HZ.out.2.keep hb5) (And.intro hy1 (And.intro hy2 hy3))))
        have hsz5 : w3.heap.size ≤ V.heap.size ∧ V.heap.size ≤ W5.heap.size := ⟨HZ.out.1.size, hb5.size⟩
        clear hy1 hy2 hy3 hb5 HZ HC
        go_wp2_with fail
        refine ⟨HV.out.2.1, ?_⟩
        refine held_reads [9] (g := 3) rfl (by kernel_rfl) HV.out.2.1 (fun _ _ d _ _ h => by cases d <;> exact h) ?_
        simp only [pick, List.getD_cons_zero, List.getD_cons_succ]
        ((with_reducible refine wpRead_step (fun K hK => ?_)); go_simp; first | ((with_reducible refine hK _ ?_); clear hK K) | (apply Exists.intro; (with_reducible refine ⟨fun w' hw' => ?_, hK _ ?_⟩); (first | exact rfl | exact ⟨rfl, rfl⟩); clear hK K))
        with_reducible refine wpRead_nil ?_
        refine held_one 10 (by kernel_rfl) ?_
        simp only [pick, List.getD_cons_zero, List.getD_cons_succ]
        have hal := (Below.refl W5.heap.size W5).alloc (Nat.le_refl _) (.cells #[.int .i64 x.r, .int .u32 (k.1 : Int), .int .i64 k.2, .int .i64 x.i, .int .i64 y.o, .slice y.p.a y.p.n y.p.c, .int .u32 y.nx, .int .i64 y.md, .int .i64 y.pf, .slice y.c.a y.c.n y.c.c] 93)
        have hone : RRt.Sl (W5.alloc (.cells #[.int .i64 x.r, .int .u32 (k.1 : Int), .int .i64 k.2, .int .i64 x.i, .int .i64 y.o, .slice y.p.a y.p.n y.p.c, .int .u32 y.nx, .int .i64 y.md, .int .i64 y.pf, .slice y.c.a y.c.n y.c.c] 93)) (some ⟨W5.heap.size, 0, none⟩) 1 1 [(⟨x.r, k, x.i, y⟩ : RtV)] := Rep.sl_one (R := RRt) (y := (⟨x.r, k, x.i, y⟩ : RtV)) (hnew _ _)
        have hb6 := bcall HV.out.1 (Nat.le_refl _) hal
        have HQ := Lib.hid (And.intro (HG.out.1.below hb6) (And.intro (fun z hz => (HG.out.2.1 z hz).below hb6) (And.intro hone (And.intro hb6 (And.intro (HV.out.2.1.keep hal) (And.intro (HV.out.2.2.1.keep hal) (And.intro HV.out.2.2.2 hsz5)))))))
        clear hal hone hb6 HV hsz5
        go_wp2_with fail
        refine ⟨HQ.out.2.2.2.2.1, ?_⟩
        generalize W5.alloc (.cells #[.int .i64 x.r, .int .u32 (k.1 : Int), .int .i64 k.2, .int .i64 x.i, .int .i64 y.o, .slice y.p.a y.p.n y.p.c, .int .u32 y.nx, .int .i64 y.md, .int .i64 y.pf, .slice y.c.a y.c.n y.c.c] 93) = W6 at *
        generalize W5.heap.size = q6 at *
        refine held_one 11 (by kernel_rfl) ?_
        simp only [pick, List.getD_cons_zero, List.getD_cons_succ]
        go_wp2_with (at_builtin; refine halt ?_)
        refine Halted.go ?_
        have hml : ml ≤ 4000000 := by
          have h1 := HG.out.2.2.2.2.2.2.2.2.1.1
          have h3 := HLE.out
          have h4 := HG.out.2.2.2.2.2.2.2.2.2.2.2.2
          rw [List.length_append] at h1
          omega
        have hmM : M.length = ml := HG.out.2.2.2.2.2.2.2.2.2.2.2.1
        refine Rep.append_listW TRt rfl _ _ rfl rfl HQ.out.1 rfl HQ.out.2.2.1 (fun h => by cases h) (by rw [hmM]; unfold maxLen; omega) (by rw [hmM]; omega) (Nat.le_trans HG.out.2.2.2.2.1 HQ.out.2.2.2.1.size) ?_
        intro v9 V9 hown9 hb9 hg9 hw9
        have hgl : ∀ g, Value.ownBlock (.slice oa ml cc) = some g → g < w3.heap.size := fun g e => (World.ownsRow.lt HG.out.1 g e).2
        have hcl : RtS w.heap.size w3.heap.size (w3.heap.size + 1) k x V9 := by
          have h1 := HQ.out.2.2.2.2.1
          have hq := lt_of_blk HG.out.2.2.2.2.2.2.1
          refine ⟨(hb9.block _ ?_).trans h1.p, (hg9.block _ (lt_of_blk h1.h) fun e => ?_).trans h1.h, (hg9.block _ (lt_of_blk h1.b) fun e => ?_).trans h1.b⟩
          · have h2 := HG.out.2.2.2.2.2.1
            have h3 := HG.out.2.2.2.2.2.2.1
            have h4 := HW.out.2.2.2.1
            rcases Nat.lt_or_ge w.heap.size (qi + 1) with h5 | h5
            · exact h5
            · omega
          · have := hgl _ e.symm; omega
          · have := hgl _ e.symm; omega
        have hel : ∀ z ∈ M ++ [(⟨x.r, k, x.i, y⟩ : RtV)], EOk (qi + 1) v9.ownBlock V9 z := fun z hz => by
          rcases List.mem_append.1 hz with hz | hz
          · exact (HQ.out.2.1 z hz).grown hg9 hw9
          · rw [List.mem_singleton] at hz
            subst hz
            have h6 := HQ.out.2.2.2.2.2.2.2.1
            have h7 := HQ.out.2.2.2.2.2.2.1.1
            have hV := HQ.out.2.2.2.2.2.2.2.2
            have hnew : NewA V.heap.size y := HQ.out.2.2.2.2.2.2.1.1
            have hq1 := HG.out.2.2.2.2.1
            refine EOk.grown (g := Value.ownBlock (.slice oa ml cc)) ⟨HX.out.1, HQ.out.2.2.2.2.2.1, ⟨fun hn a e => by have := hnew.p hn a e; omega, fun hn a e => by have := hnew.c hn a e; omega, fun z hz hn a e => by have := hnew.s z hz hn a e; omega⟩, hnew.far fun g e => by have := hgl g e; omega⟩ hg9 hw9
        obtain ⟨o9, c9, rfl, -, -⟩ := hown9.sl0
        have hrt : (M ++ [(⟨x.r, k, x.i, y⟩ : RtV)]).map RtV.rt = ((done ++ [e]).map (Kl.ofE RtV.pi L)).map RtV.rt := by
          rw [List.map_append, HG.out.2.2.2.2.2.2.2.2.2.2.1, HG.out.2.2.2.2.2.2.2.1, List.map_append]
          refine congrArg _ ?_
          show [(⟨x.r, k, x.i, y.at⟩ : Rt)] = [⟨x.r, x.k, x.i, x.a.at⟩]
          rw [HQ.out.2.2.2.2.2.2.1.2, HX.out.2.2.2]
        obtain ⟨l9, hl9⟩ : ∃ z, (M ++ [(⟨x.r, k, x.i, y⟩ : RtV)]).length = z := ⟨_, rfl⟩
        rw [hl9] at hown9 hel ⊢
        have HR := Lib.hid (And.intro hown9 (And.intro hrt (And.intro hel (And.intro hcl (And.intro hl9 (show Below (qi + 1) w3 V9 from ((HQ.out.2.2.2.1.mono HG.out.2.2.2.2.1).trans hb9)))))))
        clear hown9 hrt hel hcl hl9 hb9 hg9 hw9 hgl hml hmM
        go_wp2_with fail
        refine ⟨HR.out.2.2.2.1, ?_⟩
        refine held_one 12 (by kernel_rfl) ?_
        simp only [pick, List.getD_cons_zero, List.getD_cons_succ]
        go_wp2_with fail
        refine ⟨HR.out.2.2.2.1, ?_⟩
        refine wpAnyH_done (by kernel_rfl) ?_ _
        go_wp2_with fail
        obtain ⟨g1, g2, g3, g4, g5, g6, g7, g8, g9, g10, g11, g12, g13⟩ := HG.out
        have hb9 := HR.out.2.2.2.2.2
        have hqw : w.heap.size < qi + 1 := by
          have := HW.out.2.2.2.1
          omega
        have hit9 := (hb9.block _ (Nat.lt_succ_self qi)).trans g6
        refine ⟨⟨done ++ [e], seen.push e.2.2, _, by have h1 := HR.out.1; rw [← HR.out.2.2.2.2.1] at h1 ⊢; exact h1, HR.out.2.1, by have h1 := HR.out.2.2.1; rw [← HR.out.2.2.2.2.1] at h1 ⊢; exact h1, hit9, g3, g4.trans (hb9.mono (Nat.le_succ_of_le HW.out.2.2.2.1)), Nat.le_trans g5 hb9.size, (hb9.block _ hqw).trans g7⟩, ?_⟩
        have h5 : seenN V9 qi = (seen.push e.2.2).size := seenN_of hit9
        have h6 := g9.2
        have h7 := g9.1
        rw [h5, g10]
        rw [Array.size_push] at h6 ⊢
        omega
end Go.Proofs.YtadoflcomienoaaGreat
/- What calls make of a list of things in order. -/
namespace Go.Proofs.YtadoflcomienoaaGreat.Tm
open Go.RowKit

section
variable {α : Type}
theorem okP_key {a : Nat} {l : Int} (ha : a < 4294967296) (h : okP a l = true) : Key a l.toNat ∧ l = (l.toNat : Int) := by
  obtain ⟨h1, h2, h3⟩ := okP_iff.1 h
  exact ⟨⟨by omega, h3, ha⟩, by omega⟩
end
end Go.Proofs.YtadoflcomienoaaGreat.Tm
