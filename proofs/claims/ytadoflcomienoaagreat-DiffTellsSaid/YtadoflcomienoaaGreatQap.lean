/- How many prefixes fit, as the reference tells: the walk. -/
import Derived.Test.YtadoflcomienoaaGreatQao
import Derived.Test.YtadoflcomienoaaGreatQae
import Derived.Test.YtadoflcomienoaaGreatQab
import Derived.Test.YtadoflcomienoaaGreatQah
import Derived.Test.YtadoflcomienoaaGreatQam
namespace Go.Proofs.YtadoflcomienoaaGreat
open Go.RowKit

theorem Rep.At.range {α : Type} [Inhabited α] {R : Rep α} {W : World} {b o : Nat} {z : α} (h : R.At W b o z) : W.rangeAt b o (R.cells z) := by
  intro j v hv
  have hj : j < R.k := by rw [← R.len z]; exact (List.getElem?_eq_some_iff.1 hv).1
  exact (h j hj).trans hv
theorem range_box {W : World} {q : Nat} {cs : Array Value} {T : TypeId} {fr : Nat × Nat} (h : W.heap[q]? = some (.cells cs T fr)) : W.rangeAt q 0 cs.toList := by
  intro j v hv
  rw [Nat.zero_add]
  exact cell_of h (by simpa using hv)
structure FtS (q : Nat) (w0 : World) (x : AtV) (s : SlV Nl) (W : World) : Prop where
  bx : BxA q x W
  s : SlOk RNl NlOk W s
  a : AtOk W x
  old : Below w0.heap.size w0 W
theorem FtS.keep {q : Nat} {w0 : World} {x : AtV} {s : SlV Nl} {W W' : World} (h : FtS q w0 x s W) (hb : Below W.heap.size W W') : FtS q w0 x s W' := ⟨h.bx.keep hb, h.s.keepN hb, h.a.keep hb, bcall h.old (Nat.le_refl _) hb⟩
set_option maxRecDepth 100000 in
set_option maxHeartbeats 4000000 in
theorem rufit_any {w : World} {sa : Option Addr} {sn sc : Nat} {sl : List Nl} {x : AtV} {four : Bool} (h : SlOk RNl NlOk w ⟨sa, sn, sc, sl⟩) (hL : ∀ n ∈ sl, okN false n = true) (hx : AtOk w x) (hok : okA four x.at = true) : Calls Tryz.prog 111 #[.slice sa sn sc, x.v, .bool four, .bool false] w fun e w' => e = .returned (.int .i64 (fitI szN (4073 - asz four x.at) 1024 sl : Nat)) ∧ Below w.heap.size w w' := by
  have hal := (Below.refl w.heap.size w).alloc (Nat.le_refl _) (.cells #[.int .i64 x.o, .slice x.p.a x.p.n x.p.c, .int .u32 x.nx, .int .i64 x.md, .int .i64 x.pf, .slice x.c.a x.c.n x.c.c] 40)
  have hz := asz_le hok
  have HL := Lib.hid (show sn = sl.length from h.sl.len)
  have hmax : sn ≤ maxLen := h.sl.max
  have F0 := Lib.hid (show FtS w.heap.size w x ⟨sa, sn, sc, sl⟩ (w.alloc (.cells #[.int .i64 x.o, .slice x.p.a x.p.n x.p.c, .int .u32 x.nx, .int .i64 x.md, .int .i64 x.pf, .slice x.c.a x.c.n x.c.c] 40)) from ⟨hnew _ _, h.keepN hal, hx.keep hal, hal⟩)
  have HK := Lib.hid (And.intro hL hok)
  obtain ⟨az, haz⟩ : ∃ z, asz four x.at = z := ⟨_, rfl⟩
  rw [haz] at hz ⊢
  have HA := Lib.hid haz
  obtain ⟨fv, hfv⟩ : ∃ z, fitI szN (4073 - az) 1024 sl = z := ⟨_, rfl⟩
  rw [hfv]
  have HF := Lib.hid hfv
  have HZ := Lib.hid hz
  unfold AtV.v at *
  clear hal hx hok haz hfv h hL hz
  go_enter Tryz.func111, Tryz.ntmps111
  go_wp2_with fail
  generalize w.alloc (.cells #[.int .i64 x.o, .slice x.p.a x.p.n x.p.c, .int .u32 x.nx, .int .i64 x.md, .int .i64 x.pf, .slice x.c.a x.c.n x.c.c] 40) = W0 at *
  go_loopw [9] (fun iv wr => ∃ i : Nat, i ≤ sn ∧ iv = .int .i64 i ∧ (i ≤ 1024 ∧ szs szN (sl.take i) ≤ 4073 - az) ∧ FtS w.heap.size w x ⟨sa, sn, sc, sl⟩ wr) (fun iv _ => sn - (intOf iv).toNat)
  case atStart => exact ⟨0, Nat.zero_le _, rfl, ⟨Nat.zero_le _, by simp [szs]⟩, F0.out⟩
  case round =>
    obtain ⟨i, hi, rfl, hr, hb⟩ := hrel
    obtain ⟨w4, rfl⟩ : ∃ w4 : World, w4 = wr := ⟨_, rfl⟩
    have hd := (Below.refl w4.heap.size w4).drew
    have K := Lib.hid (hb.keep hd)
    have HR := Lib.hid hr
    clear hb hd hr
    by_cases hlt : i < sn
    · have hil : ((i : Int) < (sn : Int)) = True := by simp; omega
      obtain ⟨j, hj⟩ : ∃ j : Nat, i + 1 = j := ⟨_, rfl⟩
      have hw3 : wrap64 ((i : Int) + 1) = (j : Int) := by rw [wrapS hlt hmax, hj]
      have hje : ((i : Int) + 1) = (j : Int) := by omega
      have hjn : j ≤ sn := by omega
      have hj0 : ((0 : Int) ≤ (j : Int)) = True := by simp
      have hjw : IntKind.i64.wrap (j : Int) = (j : Int) := IntWalk.i64_in _ (by unfold maxLen at hmax; omega)
      have hjn2 : ((j : Int) ≤ (sc : Int)) = True := by have := K.out.s.nc; simp at this ⊢; omega
      obtain ⟨s1, hr1, hr2, hst, hsn, -⟩ := Rep.cut_to TNl K.out.s.sl K.out.s.nc K.out.s.nil (i := j) hjn
      have hU : UpOk w4.drew ⟨⟨none, 0, 0, []⟩, ⟨s1, j, sc, sl.take j⟩, x, false⟩ := ⟨slZ, ⟨hst, hsn, by have := K.out.s.nc; simp at this ⊢; omega, K.out.s.cm, fun n hn => K.out.s.all n (List.mem_of_mem_take hn)⟩, K.out.a⟩
      have HC := Lib.hid (rucheck_any hU four)
      have hU2 : chkU four (UpV.up ⟨⟨none, 0, 0, []⟩, ⟨s1, j, sc, sl.take j⟩, x, false⟩) = (decide (j ≤ 1024) && decide (az + szs szN (sl.take j) ≤ 4073)) := by
        have h0 : sl.take j ≠ [] := fun h => by
          have h1 := congrArg List.length h
          rw [List.length_take, List.length_nil] at h1
          have := HL.out
          omega
        have := chkU_R (four := four) (L := sl.take j) (a := x.at) (fun n hn => HK.out.1 n (List.mem_of_mem_take hn)) HK.out.2 h0
        rw [List.length_take, HA.out, Nat.min_eq_left (by rw [← HL.out]; exact hjn)] at this
        exact this
      rw [hU2] at HC
      obtain ⟨v, hv⟩ : ∃ b, (decide (j ≤ 1024) && decide (az + szs szN (sl.take j) ≤ 4073)) = b := ⟨_, rfl⟩
      rw [hv] at HC
      have HV := Lib.hid hv
      have HJ := Lib.hid hj
      have HU := Lib.hid hlt
      unfold UpV.v at HC
      dsimp only at HC
      clear hv hU2 hU hst hsn hj
      go_wp2_with fail
      refine wp_region_heldP (FtS w.heap.size w x ⟨sa, sn, sc, sl⟩) (by kernel_rfl) ?_
      generalize w4.drew = V at *
      refine held_reads [0, 1, 2, 3, 4, 5, 6, 7, 8, 9, 10, 11, 12] (g := 2) rfl (by kernel_rfl) K.out (fun _ _ d _ _ h => by cases d <;> exact h) ?_
      simp only [pick, List.getD_cons_zero, List.getD_cons_succ]
      ((with_reducible refine wpRead_step (fun K hK => ?_)); go_simp; first | ((with_reducible refine hK _ ?_); clear hK K) | (apply Exists.intro; (with_reducible refine ⟨fun w' hw' => ?_, hK _ ?_⟩); (first | exact rfl | exact ⟨rfl, rfl⟩); clear hK K))
      ((with_reducible refine wpRead_step (fun K hK => ?_)); go_simp; first | ((with_reducible refine hK _ ?_); clear hK K) | (apply Exists.intro; (with_reducible refine ⟨fun w' hw' => ?_, hK _ ?_⟩); (first | exact rfl | exact ⟨rfl, rfl⟩); clear hK K))
      ((with_reducible refine wpRead_step (fun K hK => ?_)); go_simp; first | ((with_reducible refine hK _ ?_); clear hK K) | (apply Exists.intro; (with_reducible refine ⟨fun w' hw' => ?_, hK _ ?_⟩); (first | exact rfl | exact ⟨rfl, rfl⟩); clear hK K))
      ((with_reducible refine wpRead_step (fun K hK => ?_)); go_simp; first | ((with_reducible refine hK _ ?_); clear hK K) | (apply Exists.intro; (with_reducible refine ⟨fun w' hw' => ?_, hK _ ?_⟩); (first | exact rfl | exact ⟨rfl, rfl⟩); clear hK K))
      ((with_reducible refine wpRead_step (fun K hK => ?_)); go_simp; first | ((with_reducible refine hK _ ?_); clear hK K) | (apply Exists.intro; (with_reducible refine ⟨fun w' hw' => ?_, hK _ ?_⟩); (first | exact rfl | exact ⟨rfl, rfl⟩); clear hK K))
      ((with_reducible refine wpRead_step (fun K hK => ?_)); go_simp; first | ((with_reducible refine hK _ ?_); clear hK K) | (apply Exists.intro; (with_reducible refine ⟨fun w' hw' => ?_, hK _ ?_⟩); (first | exact rfl | exact ⟨rfl, rfl⟩); clear hK K))
      ((with_reducible refine wpRead_step (fun K hK => ?_)); go_simp; first | ((with_reducible refine hK _ ?_); clear hK K) | (apply Exists.intro; (with_reducible refine ⟨fun w' hw' => ?_, hK _ ?_⟩); (first | exact rfl | exact ⟨rfl, rfl⟩); clear hK K))
      ((with_reducible refine wpRead_step (fun K hK => ?_)); go_simp; first | ((with_reducible refine hK _ ?_); clear hK K) | (apply Exists.intro; (with_reducible refine ⟨fun w' hw' => ?_, hK _ ?_⟩); (first | exact rfl | exact ⟨rfl, rfl⟩); clear hK K))
      ((with_reducible refine wpRead_step (fun K hK => ?_)); go_simp; first | ((with_reducible refine hK _ ?_); clear hK K) | (apply Exists.intro; (with_reducible refine ⟨fun w' hw' => ?_, hK _ ?_⟩); (first | exact rfl | exact ⟨rfl, rfl⟩); clear hK K))
      with_reducible refine wpRead_yes ?_ ?_
      rotate_left
      rfl
      intro K hK
      refine read_load 40 _ rfl w.heap.size 0 #[.int .i64 x.o, .slice x.p.a x.p.n x.p.c, .int .u32 x.nx, .int .i64 x.md, .int .i64 x.pf, .slice x.c.a x.c.n x.c.c] rfl (fun w' hw' => range_box hw'.bx) Tryz.underlying40 rfl (by kernel_rfl) (hK _ ?_)
      clear hK K
      ((with_reducible refine wpRead_step (fun K hK => ?_)); go_simp; first | ((with_reducible refine hK _ ?_); clear hK K) | (apply Exists.intro; (with_reducible refine ⟨fun w' hw' => ?_, hK _ ?_⟩); (first | exact rfl | exact ⟨rfl, rfl⟩); clear hK K))
      ((with_reducible refine wpRead_step (fun K hK => ?_)); go_simp; first | ((with_reducible refine hK _ ?_); clear hK K) | (apply Exists.intro; (with_reducible refine ⟨fun w' hw' => ?_, hK _ ?_⟩); (first | exact rfl | exact ⟨rfl, rfl⟩); clear hK K))
      ((with_reducible refine wpRead_step (fun K hK => ?_)); go_simp; first | ((with_reducible refine hK _ ?_); clear hK K) | (apply Exists.intro; (with_reducible refine ⟨fun w' hw' => ?_, hK _ ?_⟩); (first | exact rfl | exact ⟨rfl, rfl⟩); clear hK K))
      with_reducible refine wpRead_nil ?_
      refine held_one 13 (by kernel_rfl) ?_
      simp only [pick, List.getD_cons_zero, List.getD_cons_succ]
      go_wp2_with fail
      refine (HC.out).mono ?_
      rintro e V2 ⟨rfl, hb⟩
      have K3 := Lib.hid (K.out.keep hb)
      clear hb K HC
      go_wp2_with fail
      refine ⟨K3.out, ?_⟩
      clear hr1 hr2 hw3 hje hjn hj0 hjn2 hjw
      cases v
      · have hres : fv = i := by
          rw [← HF.out]
          have hv := HV.out
          rw [Bool.and_eq_false_iff, decide_eq_false_iff_not, decide_eq_false_iff_not] at hv
          have h1 := HR.out.1
          have h2 := HR.out.2
          have h3 := HL.out
          have h4 := HJ.out
          have h5 := HZ.out
          refine fitI_is (by omega) h1 h2 fun h6 h7 => ?_
          rw [h4]
          omega
        have HE := Lib.hid hres
        clear hres
        refine held_reads [14] (g := 0) rfl (by kernel_rfl) K3.out (fun _ _ d _ _ h => by cases d <;> exact h) ?_
        simp only [pick, List.getD_cons_zero, List.getD_cons_succ]
        ((with_reducible refine wpRead_step (fun K hK => ?_)); go_simp; first | ((with_reducible refine hK _ ?_); clear hK K) | (apply Exists.intro; (with_reducible refine ⟨fun w' hw' => ?_, hK _ ?_⟩); (first | exact rfl | exact ⟨rfl, rfl⟩); clear hK K))
        with_reducible refine wpRead_nil ?_
        refine wpAnyH_done (by kernel_rfl) ?_ _
        go_wp2_with fail
        go_ret
        exact ⟨ret_int (by rw [HE.out]), K3.out.old⟩
      · have hres : j ≤ 1024 ∧ szs szN (sl.take j) ≤ 4073 - az := by
          have hv := HV.out
          rw [Bool.and_eq_true, decide_eq_true_eq, decide_eq_true_eq] at hv
          omega
        have HE := Lib.hid hres
        have hw3 := wrapS hlt hmax
        clear hres
        refine held_reads [14] (g := 0) rfl (by kernel_rfl) K3.out (fun _ _ d _ _ h => by cases d <;> exact h) ?_
        simp only [pick, List.getD_cons_zero, List.getD_cons_succ]
        ((with_reducible refine wpRead_step (fun K hK => ?_)); go_simp; first | ((with_reducible refine hK _ ?_); clear hK K) | (apply Exists.intro; (with_reducible refine ⟨fun w' hw' => ?_, hK _ ?_⟩); (first | exact rfl | exact ⟨rfl, rfl⟩); clear hK K))
        with_reducible refine wpRead_nil ?_
        refine wpAnyH_done (by kernel_rfl) ?_ _
        go_wp2_with fail
        exact ⟨⟨i + 1, hlt, by first | rw [hw3] | rw [Int.natCast_succ], by rw [HJ.out]; exact HE.out, K3.out⟩, by first | (rw [hw3]; exact mSucc hlt) | (rw [← Int.natCast_succ]; exact mSucc hlt)⟩
    · obtain rfl : i = sn := by omega
      have hil : ((i : Int) < (i : Int)) = False := by simp
      go_wp2_with fail
      refine wp_region_heldP (FtS w.heap.size w x ⟨sa, i, sc, sl⟩) (by kernel_rfl) ?_
      generalize w4.drew = V at *
      refine held_reads [0, 1, 2, 3, 4, 5, 6, 7, 8, 9, 10, 11, 12, 13, 14] (g := 0) rfl (by kernel_rfl) K.out (fun _ _ d _ _ h => by cases d <;> exact h) ?_
      simp only [pick, List.getD_cons_zero, List.getD_cons_succ]
      ((with_reducible refine wpRead_step (fun K hK => ?_)); go_simp; first | ((with_reducible refine hK _ ?_); clear hK K) | (apply Exists.intro; (with_reducible refine ⟨fun w' hw' => ?_, hK _ ?_⟩); (first | exact rfl | exact ⟨rfl, rfl⟩); clear hK K))
      ((with_reducible refine wpRead_step (fun K hK => ?_)); go_simp; first | ((with_reducible refine hK _ ?_); clear hK K) | (apply Exists.intro; (with_reducible refine ⟨fun w' hw' => ?_, hK _ ?_⟩); (first | exact rfl | exact ⟨rfl, rfl⟩); clear hK K))
      ((with_reducible refine wpRead_step (fun K hK => ?_)); go_simp; first | ((with_reducible refine hK _ ?_); clear hK K) | (apply Exists.intro; (with_reducible refine ⟨fun w' hw' => ?_, hK _ ?_⟩); (first | exact rfl | exact ⟨rfl, rfl⟩); clear hK K))
      ((with_reducible refine wpRead_step (fun K hK => ?_)); go_simp; first | ((with_reducible refine hK _ ?_); clear hK K) | (apply Exists.intro; (with_reducible refine ⟨fun w' hw' => ?_, hK _ ?_⟩); (first | exact rfl | exact ⟨rfl, rfl⟩); clear hK K))
      ((with_reducible refine wpRead_step (fun K hK => ?_)); go_simp; first | ((with_reducible refine hK _ ?_); clear hK K) | (apply Exists.intro; (with_reducible refine ⟨fun w' hw' => ?_, hK _ ?_⟩); (first | exact rfl | exact ⟨rfl, rfl⟩); clear hK K))
      ((with_reducible refine wpRead_step (fun K hK => ?_)); go_simp; first | ((with_reducible refine hK _ ?_); clear hK K) | (apply Exists.intro; (with_reducible refine ⟨fun w' hw' => ?_, hK _ ?_⟩); (first | exact rfl | exact ⟨rfl, rfl⟩); clear hK K))
      ((with_reducible refine wpRead_step (fun K hK => ?_)); go_simp; first | ((with_reducible refine hK _ ?_); clear hK K) | (apply Exists.intro; (with_reducible refine ⟨fun w' hw' => ?_, hK _ ?_⟩); (first | exact rfl | exact ⟨rfl, rfl⟩); clear hK K))
      ((with_reducible refine wpRead_step (fun K hK => ?_)); go_simp; first | ((with_reducible refine hK _ ?_); clear hK K) | (apply Exists.intro; (with_reducible refine ⟨fun w' hw' => ?_, hK _ ?_⟩); (first | exact rfl | exact ⟨rfl, rfl⟩); clear hK K))
      ((with_reducible refine wpRead_step (fun K hK => ?_)); go_simp; first | ((with_reducible refine hK _ ?_); clear hK K) | (apply Exists.intro; (with_reducible refine ⟨fun w' hw' => ?_, hK _ ?_⟩); (first | exact rfl | exact ⟨rfl, rfl⟩); clear hK K))
      ((with_reducible refine wpRead_step (fun K hK => ?_)); go_simp; first | ((with_reducible refine hK _ ?_); clear hK K) | (apply Exists.intro; (with_reducible refine ⟨fun w' hw' => ?_, hK _ ?_⟩); (first | exact rfl | exact ⟨rfl, rfl⟩); clear hK K))
      ((with_reducible refine wpRead_step (fun K hK => ?_)); go_simp; first | ((with_reducible refine hK _ ?_); clear hK K) | (apply Exists.intro; (with_reducible refine ⟨fun w' hw' => ?_, hK _ ?_⟩); (first | exact rfl | exact ⟨rfl, rfl⟩); clear hK K))
      ((with_reducible refine wpRead_step (fun K hK => ?_)); go_simp; first | ((with_reducible refine hK _ ?_); clear hK K) | (apply Exists.intro; (with_reducible refine ⟨fun w' hw' => ?_, hK _ ?_⟩); (first | exact rfl | exact ⟨rfl, rfl⟩); clear hK K))
      ((with_reducible refine wpRead_step (fun K hK => ?_)); go_simp; first | ((with_reducible refine hK _ ?_); clear hK K) | (apply Exists.intro; (with_reducible refine ⟨fun w' hw' => ?_, hK _ ?_⟩); (first | exact rfl | exact ⟨rfl, rfl⟩); clear hK K))
      ((with_reducible refine wpRead_step (fun K hK => ?_)); go_simp; first | ((with_reducible refine hK _ ?_); clear hK K) | (apply Exists.intro; (with_reducible refine ⟨fun w' hw' => ?_, hK _ ?_⟩); (first | exact rfl | exact ⟨rfl, rfl⟩); clear hK K))
      ((with_reducible refine wpRead_step (fun K hK => ?_)); go_simp; first | ((with_reducible refine hK _ ?_); clear hK K) | (apply Exists.intro; (with_reducible refine ⟨fun w' hw' => ?_, hK _ ?_⟩); (first | exact rfl | exact ⟨rfl, rfl⟩); clear hK K))
      with_reducible refine wpRead_nil ?_
      refine wpAnyH_done (by kernel_rfl) ?_ _
      go_wp2_with fail
      go_ret
      exact ⟨ret_int (by rw [← HF.out, fitI_is (sz := szN) (n := i) (by rw [← HL.out]; exact Nat.le_refl _) HR.out.1 HR.out.2 (fun h => absurd h (by rw [← HL.out]; exact Nat.lt_irrefl _))]), K.out.old⟩
end Go.Proofs.YtadoflcomienoaaGreat
/- Where a prefix stands; which lists are the same, which are too large, as the reference tells. -/
namespace Go.Proofs.YtadoflcomienoaaGreat
open Go.RowKit

/-- an element that lies where a world had it -/
structure ElS {α : Type} [Inhabited α] (R : Rep α) (w0 : World) (b o : Nat) (x : α) (W : World) : Prop where
  at' : R.At W b o x
  lt : b < w0.heap.size
  old : Below w0.heap.size w0 W
theorem ElS.keep {α : Type} [Inhabited α] {R : Rep α} {w0 : World} {b o : Nat} {x : α} {W W' : World} (h : ElS R w0 b o x W) (hb : Below W.heap.size W W') : ElS R w0 b o x W' := ⟨h.at'.keep (hb.block _ (Nat.lt_of_lt_of_le h.lt h.old.size)), h.lt, bcall h.old (Nat.le_refl _) hb⟩
theorem ElS.begin {α : Type} [Inhabited α] {R : Rep α} {w0 : World} {b o : Nat} {x : α} (h : R.At w0 b o x) (hl : b < w0.heap.size) : ElS R w0 b o x w0 := ⟨h, hl, Below.refl _ _⟩
structure El2 {α : Type} [Inhabited α] (R : Rep α) (w0 : World) (b o : Nat) (x : α) (c p : Nat) (y : α) (W : World) : Prop where
  l : ElS R w0 b o x W
  r : ElS R w0 c p y W
theorem El2.keep {α : Type} [Inhabited α] {R : Rep α} {w0 : World} {b o c p : Nat} {x y : α} {W W' : World} (h : El2 R w0 b o x c p y W) (hb : Below W.heap.size W W') : El2 R w0 b o x c p y W' := ⟨h.l.keep hb, h.r.keep hb⟩
theorem Rep.At.yP {W : World} {b o : Nat} {x : SyV} (h : RSy.At W b o x) : W.rangeAt b o [.int .u32 (x.k.1 : Int), .int .i64 x.k.2] := by
  intro j v hv
  match j, hv with
  | 0, hv => exact (h 0 (by decide)).trans (by simpa [RSy] using hv)
  | 1, hv => exact (h 1 (by decide)).trans (by simpa [RSy] using hv)
theorem Rep.At.yA {W : World} {b o : Nat} {x : SyV} (h : RSy.At W b o x) : W.rangeAt b (o + 2) [.int .i64 x.a.o, .slice x.a.p.a x.a.p.n x.a.p.c, .int .u32 x.a.nx, .int .i64 x.a.md, .int .i64 x.a.pf, .slice x.a.c.a x.a.c.n x.a.c.c] := by
  intro j v hv
  have hj : j < 6 := (List.getElem?_eq_some_iff.1 hv).1
  have h1 := h (2 + j) (by show 2 + j < 8; omega)
  rw [← Nat.add_assoc] at h1
  rw [h1, ← hv]
  simp only [RSy]
  rw [Nat.add_comm 2 j, List.getElem?_cons_succ, List.getElem?_cons_succ]
theorem pk_ne {x k : PK} (h : x ≠ k) : ((x.1 : Int) == (k.1 : Int)) = false ∨ ((x.1 : Int) = (k.1 : Int) ∧ (x.2 == k.2) = false) := by
  by_cases f : x.1 = k.1
  · exact .inr ⟨by rw [f], by simpa using fun g : x.2 = k.2 => h (Prod.ext f g)⟩
  · exact .inl (by simpa using fun g : ((x.1 : Nat) : Int) = (k.1 : Int) => f (by omega))
/-- where a prefix stands -/
def ixP (sl : List SyV) (k : PK) (r : Int) : Prop := (r = -1 ∧ Kl.look SyV.k sl k = none) ∨ ∃ i : Nat, r = i ∧ i < sl.length ∧ Kl.look SyV.k sl k = some (sl.getD i default)
theorem look_take {sl : List SyV} {i : Nat} {k : PK} (h : ∀ j, j < i → (sl.getD j default).k ≠ k) (hi : i < sl.length) (he : (sl.getD i default).k = k) : Kl.look SyV.k sl k = some (sl.getD i default) := by
  induction sl generalizing i with
  | nil => simp at hi
  | cons x r ih =>
    rw [look_cons]
    cases i with
    | zero =>
      simp only [List.getD_cons_zero] at he ⊢
      rw [if_pos he]
    | succ i =>
      have h0 := h 0 (Nat.succ_pos _)
      simp only [List.getD_cons_zero, List.getD_cons_succ] at h0 he ⊢
      rw [if_neg h0]
      exact ih (fun j hj => by have := h (j + 1) (by omega); simpa using this) (by simpa using hi) he
theorem look_all {sl : List SyV} {k : PK} (h : ∀ j, j < sl.length → (sl.getD j default).k ≠ k) : Kl.look SyV.k sl k = none := Kl.look_no fun x hx => by
  obtain ⟨i, hi, rfl⟩ := List.getElem_of_mem hx
  have := h i hi
  rwa [List.getD_eq_getElem?_getD, List.getElem?_eq_getElem hi, Option.getD_some] at this
structure FdS (w0 : World) (b o : Nat) (x : SyV) (q : Nat) (k : PK) (W : World) : Prop where
  e : ElS RSy w0 b o x W
  bx : BxP q k W
set_option maxRecDepth 100000 in
set_option maxHeartbeats 4000000 in
theorem rfind_any {w : World} {sa : Option Addr} {sn sc : Nat} {sl : List SyV} (h : RSy.Sl w sa sn sc sl) (k : PK) : Calls Tryz.prog 59 #[.slice sa sn sc, .agg #[.int .u32 (k.1 : Int), .int .i64 k.2]] w fun e w' => (∃ r, e = .returned (.int .i64 r) ∧ ixP sl k r) ∧ Below w.heap.size w w' := by
  have hal := (Below.refl w.heap.size w).alloc (Nat.le_refl _) (.cells #[.int .u32 (k.1 : Int), .int .i64 k.2] 58)
  have hX : BxP w.heap.size k (w.alloc (.cells #[.int .u32 (k.1 : Int), .int .i64 k.2] 58)) := hnew _ _
  have HL := Lib.hid h.len
  have hmax := h.max
  have F := Lib.hid (And.intro hal (And.intro hX (h.keep hal)))
  clear h hal hX
  go_enter Tryz.func59, Tryz.ntmps59
  go_wp2_with fail
  generalize w.alloc (.cells #[.int .u32 (k.1 : Int), .int .i64 k.2] 58) = W0 at *
  go_loopw [5] (fun iv wr => ∃ i : Nat, i ≤ sn ∧ iv = .int .i64 i ∧ (∀ j, j < i → (sl.getD j default).k ≠ k) ∧ Below W0.heap.size W0 wr) (fun iv _ => sn - (intOf iv).toNat)
  case atStart => exact ⟨0, Nat.zero_le _, rfl, fun j hj => absurd hj (Nat.not_lt_zero _), Below.refl _ _⟩
  case round =>
    obtain ⟨i, hi, rfl, hall, hb⟩ := hrel
    obtain ⟨w4, rfl⟩ : ∃ w4 : World, w4 = wr := ⟨_, rfl⟩
    by_cases hlt : i < sn
    · have hil : ((i : Int) < (sn : Int)) = True := by simp; omega
      have hi0 : ((0 : Int) ≤ (i : Int)) = True := by simp
      have hw3 := wrapS hlt hmax
      obtain ⟨b, o, rfl, hbb, hat⟩ := (F.out.2.2.keep hb).at hlt
      obtain ⟨x, hx⟩ : ∃ x, sl.getD i default = x := ⟨_, rfl⟩
      rw [hx] at hat
      have hd := (Below.refl w4.heap.size w4).drew
      have K := Lib.hid (And.intro (show FdS w4 b (o + i * 8) x w.heap.size k w4.drew from ⟨(ElS.begin hat hbb).keep hd, (F.out.2.1.keep hb).keep hd⟩) (And.intro (bcall hb (Nat.le_refl _) hd) (And.intro hall (And.intro hx hlt))))
      clear hb hat hall hx hd hbb
      by_cases hxy : x.k = k
      · have e1 : (x.k.1 : Int) = (k.1 : Int) := by rw [hxy]
        have e2 : x.k.2 = k.2 := by rw [hxy]
        have HXY := Lib.hid hxy
        clear hxy
        go_wp2_with fail
        refine wp_region_heldP (FdS w4 b (o + i * 8) x w.heap.size k) (by kernel_rfl) ?_
        generalize w4.drew = V at *
        refine held_reads [0, 1, 2, 3, 4, 5, 6] (g := 0) rfl (by kernel_rfl) K.out.1 (fun _ _ d _ _ h => by cases d <;> exact h) ?_
        simp only [pick, List.getD_cons_zero, List.getD_cons_succ]
        ((with_reducible refine wpRead_step (fun K hK => ?_)); go_simp; first | ((with_reducible refine hK _ ?_); clear hK K) | (apply Exists.intro; (with_reducible refine ⟨fun w' hw' => ?_, hK _ ?_⟩); (first | exact rfl | exact ⟨rfl, rfl⟩); clear hK K))
        ((with_reducible refine wpRead_step (fun K hK => ?_)); go_simp; first | ((with_reducible refine hK _ ?_); clear hK K) | (apply Exists.intro; (with_reducible refine ⟨fun w' hw' => ?_, hK _ ?_⟩); (first | exact rfl | exact ⟨rfl, rfl⟩); clear hK K))
        ((with_reducible refine wpRead_step (fun K hK => ?_)); go_simp; first | ((with_reducible refine hK _ ?_); clear hK K) | (apply Exists.intro; (with_reducible refine ⟨fun w' hw' => ?_, hK _ ?_⟩); (first | exact rfl | exact ⟨rfl, rfl⟩); clear hK K))
        ((with_reducible refine wpRead_step (fun K hK => ?_)); go_simp; first | ((with_reducible refine hK _ ?_); clear hK K) | (apply Exists.intro; (with_reducible refine ⟨fun w' hw' => ?_, hK _ ?_⟩); (first | exact rfl | exact ⟨rfl, rfl⟩); clear hK K))
        with_reducible refine wpRead_yes ?_ ?_
        rotate_left
        rfl
        intro K hK
        refine read_load 58 _ rfl b (o + i * 8) #[.int .u32 (x.k.1 : Int), .int .i64 x.k.2] rfl (fun w' hw' => hw'.e.at'.yP) Tryz.underlying58 rfl (by kernel_rfl) (hK _ ?_)
        clear hK K
        with_reducible refine wpRead_yes ?_ ?_
        rotate_left
        rfl
        intro K hK
        refine read_load 58 _ rfl w.heap.size 0 #[.int .u32 (k.1 : Int), .int .i64 k.2] rfl (fun w' hw' => range_box hw'.bx) Tryz.underlying58 rfl (by kernel_rfl) (hK _ ?_)
        clear hK K
        ((with_reducible refine wpRead_step (fun K hK => ?_)); go_simp; first | ((with_reducible refine hK _ ?_); clear hK K) | (apply Exists.intro; (with_reducible refine ⟨fun w' hw' => ?_, hK _ ?_⟩); (first | exact rfl | exact ⟨rfl, rfl⟩); clear hK K))
        with_reducible refine wpRead_nil ?_
        refine wpAnyH_done (by kernel_rfl) ?_ _
        go_wp2_with fail
        go_ret
        exact ⟨⟨_, rfl, .inr ⟨i, rfl, by rw [← HL.out]; exact K.out.2.2.2.2, by rw [look_take K.out.2.2.1 (by rw [← HL.out]; exact K.out.2.2.2.2) (by rw [K.out.2.2.2.1]; exact HXY.out)]⟩⟩, bcall F.out.1 (Nat.le_refl _) K.out.2.1⟩
      · have HXY := Lib.hid hxy
        rcases pk_ne hxy with e1 | ⟨e1, e2⟩
        all_goals
          clear hxy
          go_wp2_with fail
          refine wp_region_heldP (FdS w4 b (o + i * 8) x w.heap.size k) (by kernel_rfl) ?_
          generalize w4.drew = V at *
          refine held_reads [0, 1, 2, 3, 4, 5, 6] (g := 0) rfl (by kernel_rfl) K.out.1 (fun _ _ d _ _ h => by cases d <;> exact h) ?_
          simp only [pick, List.getD_cons_zero, List.getD_cons_succ]
          ((with_reducible refine wpRead_step (fun K hK => ?_)); go_simp; first | ((with_reducible refine hK _ ?_); clear hK K) | (apply Exists.intro; (with_reducible refine ⟨fun w' hw' => ?_, hK _ ?_⟩); (first | exact rfl | exact ⟨rfl, rfl⟩); clear hK K))
          ((with_reducible refine wpRead_step (fun K hK => ?_)); go_simp; first | ((with_reducible refine hK _ ?_); clear hK K) | (apply Exists.intro; (with_reducible refine ⟨fun w' hw' => ?_, hK _ ?_⟩); (first | exact rfl | exact ⟨rfl, rfl⟩); clear hK K))
          ((with_reducible refine wpRead_step (fun K hK => ?_)); go_simp; first | ((with_reducible refine hK _ ?_); clear hK K) | (apply Exists.intro; (with_reducible refine ⟨fun w' hw' => ?_, hK _ ?_⟩); (first | exact rfl | exact ⟨rfl, rfl⟩); clear hK K))
          ((with_reducible refine wpRead_step (fun K hK => ?_)); go_simp; first | ((with_reducible refine hK _ ?_); clear hK K) | (apply Exists.intro; (with_reducible refine ⟨fun w' hw' => ?_, hK _ ?_⟩); (first | exact rfl | exact ⟨rfl, rfl⟩); clear hK K))
          with_reducible refine wpRead_yes ?_ ?_
          rotate_left
          rfl
          intro K hK
          refine read_load 58 _ rfl b (o + i * 8) #[.int .u32 (x.k.1 : Int), .int .i64 x.k.2] rfl (fun w' hw' => hw'.e.at'.yP) Tryz.underlying58 rfl (by kernel_rfl) (hK _ ?_)
          clear hK K
          with_reducible refine wpRead_yes ?_ ?_
          rotate_left
          rfl
          intro K hK
          refine read_load 58 _ rfl w.heap.size 0 #[.int .u32 (k.1 : Int), .int .i64 k.2] rfl (fun w' hw' => range_box hw'.bx) Tryz.underlying58 rfl (by kernel_rfl) (hK _ ?_)
          clear hK K
          ((with_reducible refine wpRead_step (fun K hK => ?_)); go_simp; first | ((with_reducible refine hK _ ?_); clear hK K) | (apply Exists.intro; (with_reducible refine ⟨fun w' hw' => ?_, hK _ ?_⟩); (first | exact rfl | exact ⟨rfl, rfl⟩); clear hK K))
          with_reducible refine wpRead_nil ?_
          refine wpAnyH_done (by kernel_rfl) ?_ _
          go_wp2_with fail
          exact ⟨⟨i + 1, hlt, by first | rw [hw3] | rw [Int.natCast_succ], fun j hj => (Nat.lt_succ_iff_lt_or_eq.1 hj).elim (K.out.2.2.1 j) (fun e => by rw [e, K.out.2.2.2.1]; exact HXY.out), K.out.2.1⟩, by first | (rw [hw3]; exact mSucc hlt) | (rw [← Int.natCast_succ]; exact mSucc hlt)⟩
    · obtain rfl : sn = i := by omega
      have hil : ((sn : Int) < (sn : Int)) = False := by simp
      have HB := Lib.hid (And.intro hb hall)
      clear hb hall
      go_wp2_with fail
      go_ret
      exact ⟨⟨_, rfl, .inl ⟨rfl, look_all fun j hj => HB.out.2 j (by rw [HL.out]; exact hj)⟩⟩, bcall F.out.1 (Nat.le_refl _) HB.out.1⟩

def largeY (L : List Sy) : Bool := decide (60 < L.length) || !(L.all fun s => !largeA s.a)
set_option maxRecDepth 100000 in
set_option maxHeartbeats 4000000 in
theorem rlargeY_any {w : World} {sa : Option Addr} {sn sc : Nat} {sl : List SyV} (h : SlOk RSy SyOk w ⟨sa, sn, sc, sl⟩) : Calls Tryz.prog 10 #[.slice sa sn sc] w fun e w' => e = .returned (.bool (largeY (sl.map SyV.sy))) ∧ Below w.heap.size w w' := by
  have HL := Lib.hid (show sn = sl.length from h.sl.len)
  have hmax : sn ≤ maxLen := h.sl.max
  have F := Lib.hid h
  obtain ⟨v, hv⟩ : ∃ v, largeY (sl.map SyV.sy) = v := ⟨_, rfl⟩
  rw [hv]
  have HV := Lib.hid (show v = (decide (60 < sn) || !(sl.all fun s => !largeA s.a.at)) from by
    rw [← hv]
    unfold largeY
    rw [List.length_map, ← HL.out, List.all_map]
    rfl)
  clear h hv
  by_cases h1 : 60 < sn
  · have e1 : ((60 : Int) < (sn : Int)) = True := by simp; omega
    rw [decide_eq_true h1] at HV
    clear h1
    go_enter Tryz.func10, Tryz.ntmps10
    go_wp2_with fail
    go_ret
    exact ⟨ret_bool (by rw [HV.out]; rfl), Below.refl _ _⟩
  · have e1 : ((60 : Int) < (sn : Int)) = False := by simp; omega
    rw [decide_eq_false h1, Bool.false_or] at HV
    clear h1
    go_enter Tryz.func10, Tryz.ntmps10
    go_wp2_with fail
    clear e1
    go_loopw [3] (fun iv wr => ∃ i : Nat, i ≤ sn ∧ iv = .int .i64 i ∧ (sl.take i).all (fun s => !largeA s.a.at) = true ∧ Below w.heap.size w wr) (fun iv _ => sn - (intOf iv).toNat)
    case atStart => exact ⟨0, Nat.zero_le _, rfl, rfl, Below.refl _ _⟩
    case round =>
      obtain ⟨i, hi, rfl, hall, hb⟩ := hrel
      obtain ⟨w2, rfl⟩ : ∃ w2 : World, w2 = wr := ⟨_, rfl⟩
      by_cases hlt : i < sn
      · have hil : ((i : Int) < (sn : Int)) = True := by simp; omega
        have hi0 : ((0 : Int) ≤ (i : Int)) = True := by simp
        have hw3 := wrapS hlt hmax
        have hsl := F.out.keepY hb
        have hlL : i < sl.length := by rw [← HL.out]; exact hlt
        obtain ⟨b0, o0, ea, hbb, hat⟩ := hsl.sl.at hlt
        dsimp only at ea
        subst ea
        have hmem := getD_mem hlL
        have t1 := all_take_s sl (fun s => !largeA s.a.at) i hlL
        rw [hall, Bool.true_and] at t1
        have hok := hsl.all _ hmem
        dsimp only at hat hmem hok
        generalize sl.getD i default = x at *
        have HC := Lib.hid (large_any hok.a)
        obtain ⟨bo, hbo⟩ : ∃ b, largeA x.a.at = b := ⟨_, rfl⟩
        rw [hbo] at HC t1
        have c2 := hat 2 (by decide)
        have c3 := hat 3 (by decide)
        have c4 := hat 4 (by decide)
        have c5 := hat 5 (by decide)
        have c6 := hat 6 (by decide)
        have c7 := hat 7 (by decide)
        simp only [RSy, List.getElem?_cons_zero, List.getElem?_cons_succ] at c2 c3 c4 c5 c6 c7
        have HT := Lib.hid (And.intro t1 (And.intro hmem (And.intro hbo hb)))
        unfold AtV.v at HC
        clear hsl hbb hat t1 hok hb hmem hbo hlL hall
        go_wp2_with fail
        refine (HC.out).mono ?_
        rintro e W3 ⟨rfl, hb3⟩
        have HB3 := Lib.hid (bcall HT.out.2.2.2 (Nat.le_refl _) hb3)
        clear hb3 HC c2 c3 c4 c5 c6 c7
        cases bo with
        | true =>
          go_wp2_with fail
          go_ret
          have hno : sl.all (fun s => !largeA s.a.at) = false := by
            rw [List.all_eq_false]
            exact ⟨x, HT.out.2.1, by rw [HT.out.2.2.1]; simp⟩
          exact ⟨ret_bool (by rw [HV.out, hno]; rfl), HB3.out⟩
        | false =>
          go_wp2_with fail
          exact ⟨⟨i + 1, hlt, by first | rw [hw3] | rw [Int.natCast_succ], HT.out.1, HB3.out⟩, by first | (rw [hw3]; exact mSucc hlt) | (rw [← Int.natCast_succ]; exact mSucc hlt)⟩
      · obtain rfl : i = sn := by omega
        have hil : ((i : Int) < (i : Int)) = False := by simp
        have HB := Lib.hid (And.intro hb hall)
        clear hb hall
        go_wp2_with fail
        go_ret
        have hy : sl.all (fun s => !largeA s.a.at) = true := by
          have := HB.out.2
          rwa [HL.out, List.take_length] at this
        exact ⟨ret_bool (by rw [HV.out, hy]; rfl), HB.out.1⟩
end Go.Proofs.YtadoflcomienoaaGreat
/- What may be said, as the reference tells. -/
namespace Go.Proofs.YtadoflcomienoaaGreat
open Go.RowKit

def okS (four : Bool) (s : SyV) : Bool := okP s.k.1 s.k.2 && okA four s.a.at
theorem okY_is {four : Bool} {sl : List SyV} : okY four (sl.map SyV.sy) = (sl.all (okS four) && decide ((sl.map SyV.k).Nodup)) := by
  unfold okY
  rw [List.all_map, List.map_map]
  rfl
theorem nodup_snoc {sl : List SyV} {i : Nat} (hi : i < sl.length) (h : ((sl.take i).map SyV.k).Nodup) (hn : ∀ j, j < i → (sl.getD j default).k ≠ (sl.getD i default).k) : ((sl.take (i + 1)).map SyV.k).Nodup := by
  rw [take_snoc sl i hi, List.map_append, List.nodup_append]
  refine ⟨h, by simp, ?_⟩
  intro a ha b hb e
  obtain ⟨y, hy, rfl⟩ := List.mem_map.1 ha
  obtain ⟨j, hj, rfl⟩ := List.getElem_of_mem hy
  rw [List.length_take] at hj
  have h1 := hn j (by omega)
  simp only [List.map_cons, List.map_nil, List.mem_singleton] at hb
  rw [List.getElem_take] at e
  rw [List.getD_eq_getElem?_getD, List.getElem?_eq_getElem (show j < sl.length by omega), Option.getD_some] at h1
  exact h1 (e.trans hb)
theorem nodup_not {sl : List SyV} {i j : Nat} (hj : j < i) (hi : i < sl.length) (h : (sl.getD j default).k = (sl.getD i default).k) : ¬ (sl.map SyV.k).Nodup := by
  intro hn
  rw [List.nodup_iff_pairwise_ne, List.pairwise_map] at hn
  have := List.pairwise_iff_getElem.1 hn j i (by omega) hi hj
  rw [List.getD_eq_getElem?_getD, List.getElem?_eq_getElem (show j < sl.length by omega), Option.getD_some, List.getD_eq_getElem?_getD, List.getElem?_eq_getElem hi, Option.getD_some] at h
  exact this h
set_option maxRecDepth 100000 in
set_option maxHeartbeats 8000000 in
theorem rcheckY_any {w : World} {sa : Option Addr} {sn sc : Nat} {sl : List SyV} (h : SlOk RSy SyOk w ⟨sa, sn, sc, sl⟩) (four : Bool) : Calls Tryz.prog 13 #[.slice sa sn sc, .bool four] w fun e w' => e = .returned (.bool (okY four (sl.map SyV.sy))) ∧ Below w.heap.size w w' := by
  have HL := Lib.hid (show sn = sl.length from h.sl.len)
  have hmax : sn ≤ maxLen := h.sl.max
  have F := Lib.hid h
  obtain ⟨v, hv⟩ : ∃ v, okY four (sl.map SyV.sy) = v := ⟨_, rfl⟩
  rw [hv]
  have HV := Lib.hid (hv.symm.trans okY_is)
  clear h hv
  go_enter Tryz.func13, Tryz.ntmps13
  go_wp2_with fail
  go_loopw [5] (fun iv wr => ∃ i : Nat, i ≤ sn ∧ iv = .int .i64 i ∧ ((sl.take i).all (okS four) = true ∧ ((sl.take i).map SyV.k).Nodup) ∧ Below w.heap.size w wr) (fun iv _ => sn - (intOf iv).toNat)
  case atStart => exact ⟨0, Nat.zero_le _, rfl, ⟨rfl, List.nodup_nil⟩, Below.refl _ _⟩
  case round =>
    obtain ⟨i, hi, rfl, hall, hb⟩ := hrel
    obtain ⟨w2, rfl⟩ : ∃ w2 : World, w2 = wr := ⟨_, rfl⟩
    by_cases hlt : i < sn
    · have hil : ((i : Int) < (sn : Int)) = True := by simp; omega
      have hi0 : ((0 : Int) ≤ (i : Int)) = True := by simp
      have hw3 := wrapS hlt hmax
      have hsl := F.out.keepY hb
      have hlL : i < sl.length := by rw [← HL.out]; exact hlt
      obtain ⟨b0, o0, ea, hbb, hat⟩ := hsl.sl.at hlt
      dsimp only at ea
      subst ea
      have hmem := getD_mem hlL
      have t1 := all_take_s sl (okS four) i hlL
      rw [hall.1, Bool.true_and] at t1
      have hok := hsl.all _ hmem
      dsimp only at hat hmem hok
      obtain ⟨x, hx⟩ : ∃ x, sl.getD i default = x := ⟨_, rfl⟩
      rw [hx] at hat hmem hok t1
      have HC := Lib.hid (rcheck_any x.k.1 x.k.2 hok.k.1 w2)
      obtain ⟨bp, hbp⟩ : ∃ b, okP x.k.1 x.k.2 = b := ⟨_, rfl⟩
      rw [hbp] at HC
      have HBP := Lib.hid hbp
      have G := Lib.hid (And.intro hall (And.intro hb (And.intro hat (And.intro hbb (And.intro hok (And.intro hx (And.intro hmem (And.intro t1 (And.intro hlL hsl)))))))))
      have c0 := hat 0 (by decide)
      have c1 := hat 1 (by decide)
      have c2 := hat 2 (by decide)
      have c3 := hat 3 (by decide)
      have c4 := hat 4 (by decide)
      have c5 := hat 5 (by decide)
      have c6 := hat 6 (by decide)
      have c7 := hat 7 (by decide)
      simp only [RSy, Nat.add_zero, List.getElem?_cons_zero, List.getElem?_cons_succ] at c0 c1 c2 c3 c4 c5 c6 c7
      unfold pfx at HC
      clear hbp hsl hbb hat t1 hok hb hmem hall hx hlL hi
      cases bp with
      | false =>
        go_wp2_with fail
        refine (HC.out).mono ?_
        rintro e W3 ⟨rfl, hb3⟩
        have HB3 := Lib.hid (bcall G.out.2.1 (Nat.le_refl _) hb3)
        clear hb3 HC c0 c1 c2 c3 c4 c5 c6 c7
        go_wp2_with fail
        go_ret
        have hno : sl.all (okS four) = false := by
          rw [List.all_eq_false]
          exact ⟨x, G.out.2.2.2.2.2.2.1, by unfold okS; rw [HBP.out]; simp⟩
        exact ⟨ret_bool (by rw [HV.out, hno]; rfl), HB3.out⟩
      | true =>
        go_wp2_with fail
        refine (HC.out).mono ?_
        rintro e W3 ⟨rfl, hb3⟩
        have HC2 := Lib.hid (racheck_any (G.out.2.2.2.2.1.a.keep hb3) four)
        obtain ⟨ba, hba⟩ : ∃ b, okA four x.a.at = b := ⟨_, rfl⟩
        rw [hba] at HC2
        have HBA := Lib.hid hba
        have hat := G.out.2.2.1.keep (hb3.block _ G.out.2.2.2.1)
        have HB3 := Lib.hid hb3
        clear hba hb3 HC c0 c1 c2 c3 c4 c5 c6 c7
        have c0 := hat 0 (by decide)
        have c1 := hat 1 (by decide)
        have c2 := hat 2 (by decide)
        have c3 := hat 3 (by decide)
        have c4 := hat 4 (by decide)
        have c5 := hat 5 (by decide)
        have c6 := hat 6 (by decide)
        have c7 := hat 7 (by decide)
        simp only [RSy, Nat.add_zero, List.getElem?_cons_zero, List.getElem?_cons_succ] at c0 c1 c2 c3 c4 c5 c6 c7
        unfold AtV.v at HC2
        clear hat
        go_wp2_with fail
        refine (HC2.out).mono ?_
        rintro e W4 ⟨rfl, hb4⟩
        have HB4 := Lib.hid (HB3.out.trans (hb4.mono HB3.out.size))
        clear hb4 HC2 c0 c1 c2 c3 c4 c5 c6 c7 HB3
        cases ba with
        | false =>
          go_wp2_with fail
          go_ret
          have hno : sl.all (okS four) = false := by
            rw [List.all_eq_false]
            exact ⟨x, G.out.2.2.2.2.2.2.1, by unfold okS; rw [HBA.out]; simp⟩
          exact ⟨ret_bool (by rw [HV.out, hno]; rfl), bcall G.out.2.1 (Nat.le_refl _) HB4.out⟩
        | true =>
          have HI := Lib.hid hlt
          go_wp2_with fail
          go_loopw [6] (fun kv wr => ∃ k : Nat, k ≤ i ∧ kv = .int .i64 k ∧ (∀ j, j < k → (sl.getD j default).k ≠ x.k) ∧ Below w2.heap.size w2 wr) (fun kv _ => i - (intOf kv).toNat)
          case atStart => exact ⟨0, Nat.zero_le _, rfl, fun j hj => absurd hj (Nat.not_lt_zero _), HB4.out⟩
          case round =>
            obtain ⟨k, hk, rfl, hno, hb⟩ := hrel
            obtain ⟨w5, rfl⟩ : ∃ w5 : World, w5 = wr := ⟨_, rfl⟩
            by_cases hki : k < i
            · have hkl : ((k : Int) < (i : Int)) = True := by simp; omega
              have hk0 : ((0 : Int) ≤ (k : Int)) = True := by simp
              have hks : ((k : Int) < (sn : Int)) = True := by simp; omega
              have hwk := wrapS hki (show i ≤ maxLen by omega)
              obtain ⟨b1, o1, ea, hbb1, hat1⟩ := (G.out.2.2.2.2.2.2.2.2.2.keepY hb).sl.at (show k < sn by omega)
              injection ea with ea
              injection ea with ea1 ea2 _
              subst ea1
              subst ea2
              obtain ⟨y, hy⟩ : ∃ y, sl.getD k default = y := ⟨_, rfl⟩
              dsimp only at hat1
              rw [hy] at hat1
              have hat := G.out.2.2.1.keep (hb.block _ G.out.2.2.2.1)
              have hd := (Below.refl w5.heap.size w5).drew
              have K := Lib.hid (And.intro (show El2 RSy w5 b0 (o0 + k * 8) y b0 (o0 + i * 8) x w5.drew from ⟨(ElS.begin hat1 hbb1).keep hd, (ElS.begin hat hbb1).keep hd⟩) (And.intro (bcall hb (Nat.le_refl _) hd) (And.intro hno (And.intro hy hki))))
              clear hat1 hat hbb1 hd hb hno hy hk
              by_cases hp : y.k = x.k
              · have e1 : (y.k.1 : Int) = (x.k.1 : Int) := by rw [hp]
                have e2 : y.k.2 = x.k.2 := by rw [hp]
                have HP := Lib.hid hp
                clear hp
                go_wp2_with fail
                refine wp_region_heldP (El2 RSy w5 b0 (o0 + k * 8) y b0 (o0 + i * 8) x) (by kernel_rfl) ?_
                generalize w5.drew = V at *
                refine held_reads [0, 1, 2, 3, 4, 5, 6, 7, 8, 9, 10] (g := 0) rfl (by kernel_rfl) K.out.1 (fun _ _ d _ _ h => by cases d <;> exact h) ?_
                simp only [pick, List.getD_cons_zero, List.getD_cons_succ]
                ((with_reducible refine wpRead_step (fun K hK => ?_)); go_simp; first | ((with_reducible refine hK _ ?_); clear hK K) | (apply Exists.intro; (with_reducible refine ⟨fun w' hw' => ?_, hK _ ?_⟩); (first | exact rfl | exact ⟨rfl, rfl⟩); clear hK K))
                ((with_reducible refine wpRead_step (fun K hK => ?_)); go_simp; first | ((with_reducible refine hK _ ?_); clear hK K) | (apply Exists.intro; (with_reducible refine ⟨fun w' hw' => ?_, hK _ ?_⟩); (first | exact rfl | exact ⟨rfl, rfl⟩); clear hK K))
                ((with_reducible refine wpRead_step (fun K hK => ?_)); go_simp; first | ((with_reducible refine hK _ ?_); clear hK K) | (apply Exists.intro; (with_reducible refine ⟨fun w' hw' => ?_, hK _ ?_⟩); (first | exact rfl | exact ⟨rfl, rfl⟩); clear hK K))
                ((with_reducible refine wpRead_step (fun K hK => ?_)); go_simp; first | ((with_reducible refine hK _ ?_); clear hK K) | (apply Exists.intro; (with_reducible refine ⟨fun w' hw' => ?_, hK _ ?_⟩); (first | exact rfl | exact ⟨rfl, rfl⟩); clear hK K))
                with_reducible refine wpRead_yes ?_ ?_
                rotate_left
                rfl
                intro K hK
                refine read_load 58 _ rfl b0 (o0 + k * 8) #[.int .u32 (y.k.1 : Int), .int .i64 y.k.2] rfl (fun w' hw' => hw'.l.at'.yP) Tryz.underlying58 rfl (by kernel_rfl) (hK _ ?_)
                clear hK K
                ((with_reducible refine wpRead_step (fun K hK => ?_)); go_simp; first | ((with_reducible refine hK _ ?_); clear hK K) | (apply Exists.intro; (with_reducible refine ⟨fun w' hw' => ?_, hK _ ?_⟩); (first | exact rfl | exact ⟨rfl, rfl⟩); clear hK K))
                ((with_reducible refine wpRead_step (fun K hK => ?_)); go_simp; first | ((with_reducible refine hK _ ?_); clear hK K) | (apply Exists.intro; (with_reducible refine ⟨fun w' hw' => ?_, hK _ ?_⟩); (first | exact rfl | exact ⟨rfl, rfl⟩); clear hK K))
                ((with_reducible refine wpRead_step (fun K hK => ?_)); go_simp; first | ((with_reducible refine hK _ ?_); clear hK K) | (apply Exists.intro; (with_reducible refine ⟨fun w' hw' => ?_, hK _ ?_⟩); (first | exact rfl | exact ⟨rfl, rfl⟩); clear hK K))
                ((with_reducible refine wpRead_step (fun K hK => ?_)); go_simp; first | ((with_reducible refine hK _ ?_); clear hK K) | (apply Exists.intro; (with_reducible refine ⟨fun w' hw' => ?_, hK _ ?_⟩); (first | exact rfl | exact ⟨rfl, rfl⟩); clear hK K))
                with_reducible refine wpRead_yes ?_ ?_
                rotate_left
                rfl
                intro K hK
                refine read_load 58 _ rfl b0 (o0 + i * 8) #[.int .u32 (x.k.1 : Int), .int .i64 x.k.2] rfl (fun w' hw' => hw'.r.at'.yP) Tryz.underlying58 rfl (by kernel_rfl) (hK _ ?_)
                clear hK K
                ((with_reducible refine wpRead_step (fun K hK => ?_)); go_simp; first | ((with_reducible refine hK _ ?_); clear hK K) | (apply Exists.intro; (with_reducible refine ⟨fun w' hw' => ?_, hK _ ?_⟩); (first | exact rfl | exact ⟨rfl, rfl⟩); clear hK K))
                with_reducible refine wpRead_nil ?_
                refine wpAnyH_done (by kernel_rfl) ?_ _
                go_wp2_with fail
                go_ret
                have hno : decide ((sl.map SyV.k).Nodup) = false := decide_eq_false (nodup_not K.out.2.2.2.2 G.out.2.2.2.2.2.2.2.2.1 (by rw [K.out.2.2.2.1, G.out.2.2.2.2.2.1]; exact HP.out))
                exact ⟨ret_bool (by rw [HV.out, hno, Bool.and_false]), bcall G.out.2.1 (Nat.le_refl _) K.out.2.1⟩
              · have HP := Lib.hid hp
                rcases pk_ne hp with e1 | ⟨e1, e2⟩
                all_goals
                  clear hp
                  go_wp2_with fail
                  refine wp_region_heldP (El2 RSy w5 b0 (o0 + k * 8) y b0 (o0 + i * 8) x) (by kernel_rfl) ?_
                  generalize w5.drew = V at *
                  refine held_reads [0, 1, 2, 3, 4, 5, 6, 7, 8, 9, 10] (g := 0) rfl (by kernel_rfl) K.out.1 (fun _ _ d _ _ h => by cases d <;> exact h) ?_
                  simp only [pick, List.getD_cons_zero, List.getD_cons_succ]
                  ((with_reducible refine wpRead_step (fun K hK => ?_)); go_simp; first | ((with_reducible refine hK _ ?_); clear hK K) | (apply Exists.intro; (with_reducible refine ⟨fun w' hw' => ?_, hK _ ?_⟩); (first | exact rfl | exact ⟨rfl, rfl⟩); clear hK K))
                  ((with_reducible refine wpRead_step (fun K hK => ?_)); go_simp; first | ((with_reducible refine hK _ ?_); clear hK K) | (apply Exists.intro; (with_reducible refine ⟨fun w' hw' => ?_, hK _ ?_⟩); (first | exact rfl | exact ⟨rfl, rfl⟩); clear hK K))
                  ((with_reducible refine wpRead_step (fun K hK => ?_)); go_simp; first | ((with_reducible refine hK _ ?_); clear hK K) | (apply Exists.intro; (with_reducible refine ⟨fun w' hw' => ?_, hK _ ?_⟩); (first | exact rfl | exact ⟨rfl, rfl⟩); clear hK K))
                  ((with_reducible refine wpRead_step (fun K hK => ?_)); go_simp; first | ((with_reducible refine hK _ ?_); clear hK K) | (apply Exists.intro; (with_reducible refine ⟨fun w' hw' => ?_, hK _ ?_⟩); (first | exact rfl | exact ⟨rfl, rfl⟩); clear hK K))
                  with_reducible refine wpRead_yes ?_ ?_
                  rotate_left
                  rfl
                  intro K hK
                  refine read_load 58 _ rfl b0 (o0 + k * 8) #[.int .u32 (y.k.1 : Int), .int .i64 y.k.2] rfl (fun w' hw' => hw'.l.at'.yP) Tryz.underlying58 rfl (by kernel_rfl) (hK _ ?_)
                  clear hK K
                  ((with_reducible refine wpRead_step (fun K hK => ?_)); go_simp; first | ((with_reducible refine hK _ ?_); clear hK K) | (apply Exists.intro; (with_reducible refine ⟨fun w' hw' => ?_, hK _ ?_⟩); (first | exact rfl | exact ⟨rfl, rfl⟩); clear hK K))
                  ((with_reducible refine wpRead_step (fun K hK => ?_)); go_simp; first | ((with_reducible refine hK _ ?_); clear hK K) | (apply Exists.intro; (with_reducible refine ⟨fun w' hw' => ?_, hK _ ?_⟩); (first | exact rfl | exact ⟨rfl, rfl⟩); clear hK K))
                  ((with_reducible refine wpRead_step (fun K hK => ?_)); go_simp; first | ((with_reducible refine hK _ ?_); clear hK K) | (apply Exists.intro; (with_reducible refine ⟨fun w' hw' => ?_, hK _ ?_⟩); (first | exact rfl | exact ⟨rfl, rfl⟩); clear hK K))
                  ((with_reducible refine wpRead_step (fun K hK => ?_)); go_simp; first | ((with_reducible refine hK _ ?_); clear hK K) | (apply Exists.intro; (with_reducible refine ⟨fun w' hw' => ?_, hK _ ?_⟩); (first | exact rfl | exact ⟨rfl, rfl⟩); clear hK K))
                  with_reducible refine wpRead_yes ?_ ?_
                  rotate_left
                  rfl
                  intro K hK
                  refine read_load 58 _ rfl b0 (o0 + i * 8) #[.int .u32 (x.k.1 : Int), .int .i64 x.k.2] rfl (fun w' hw' => hw'.r.at'.yP) Tryz.underlying58 rfl (by kernel_rfl) (hK _ ?_)
                  clear hK K
                  ((with_reducible refine wpRead_step (fun K hK => ?_)); go_simp; first | ((with_reducible refine hK _ ?_); clear hK K) | (apply Exists.intro; (with_reducible refine ⟨fun w' hw' => ?_, hK _ ?_⟩); (first | exact rfl | exact ⟨rfl, rfl⟩); clear hK K))
                  with_reducible refine wpRead_nil ?_
                  refine wpAnyH_done (by kernel_rfl) ?_ _
                  go_wp2_with fail
                  exact ⟨⟨k + 1, hki, by first | rw [hwk] | rw [Int.natCast_succ], fun j hj => (Nat.lt_succ_iff_lt_or_eq.1 hj).elim (K.out.2.2.1 j) (fun e => by rw [e, K.out.2.2.2.1]; exact HP.out), K.out.2.1⟩, by first | (rw [hwk]; exact mSucc hki) | (rw [← Int.natCast_succ]; exact mSucc hki)⟩
            · obtain rfl : k = i := by omega
              have hkl : ((k : Int) < (k : Int)) = False := by simp
              have HB := Lib.hid (And.intro hno (bcall G.out.2.1 (Nat.le_refl _) hb))
              clear hno hb hk
              go_wp2_with fail
              have hA : (sl.take (k + 1)).all (okS four) = true := by rw [G.out.2.2.2.2.2.2.2.1]; unfold okS; rw [HBP.out, HBA.out]; rfl
              have hB : ((sl.take (k + 1)).map SyV.k).Nodup := nodup_snoc G.out.2.2.2.2.2.2.2.2.1 G.out.1.2 (by rw [G.out.2.2.2.2.2.1]; exact HB.out.1)
              exact ⟨⟨k + 1, hlt, by first | rw [hw3] | rw [Int.natCast_succ], ⟨hA, hB⟩, HB.out.2⟩, by first | (rw [hw3]; exact mSucc hlt) | (rw [← Int.natCast_succ]; exact mSucc hlt)⟩
    · obtain rfl : i = sn := by omega
      have hil : ((i : Int) < (i : Int)) = False := by simp
      have HB := Lib.hid (And.intro hb hall)
      clear hb hall
      go_wp2_with fail
      go_ret
      have hA := HB.out.2.1
      have hB := HB.out.2.2
      rw [HL.out, List.take_length] at hA hB
      exact ⟨ret_bool (by rw [HV.out, hA, decide_eq_true hB]; rfl), HB.out.1⟩
end Go.Proofs.YtadoflcomienoaaGreat
/- Updates of prefixes that go. -/
namespace Go.Proofs.YtadoflcomienoaaGreat
open Go.RowKit

theorem chkU_G {four : Bool} {L : List Nl} (hL : ∀ n ∈ L, okN false n = true) : chkU four (mkG L) = (decide (L.length ≤ 1024) && decide (szs szN L ≤ 4073)) := by
  have h1 : okL false L = decide (L.length ≤ 1024) := by
    unfold okL
    rw [List.all_eq_true.2 hL, Bool.and_true]
  unfold chkU lenU mkG okAt aszU
  dsimp only
  rw [if_pos List.length_nil, if_pos List.length_nil, h1, show (nbs false ([] : List Nl)).length = 0 from rfl, nbs_szs, show okL false ([] : List Nl) = true from rfl]
  rw [Bool.eq_iff_iff]
  simp only [Bool.and_eq_true, decide_eq_true_eq, Bool.not_false, true_and, and_true]
  omega
theorem szN_9 {n : Nl} (h : okN false n = true) : szN n ≤ 9 := nb_len false h
theorem fitG_pos {l : List Nl} (hL : ∀ n ∈ l, okN false n = true) (h : l ≠ []) : 1 ≤ fitI szN 4073 1024 l := fitI_pos h (by decide) fun x hx => by have := szN_9 (hL x hx); omega
theorem goneI_step {l : List Nl} (hL : ∀ n ∈ l, okN false n = true) (h : l ≠ []) : goneI szN l = mkG (l.take (fitI szN 4073 1024 l)) :: goneI szN (l.drop (fitI szN 4073 1024 l)) := by
  have h1 := fitG_pos hL h
  have e : ∀ (n m : Nat) (r : List Nl), (∀ x ∈ r, okN false x = true) → r.length ≤ n → r.length ≤ m → chunksI (fitI szN 4073 1024) n r = chunksI (fitI szN 4073 1024) m r := by
    intro n
    induction n with
    | zero =>
      intro m r hr h1 h2
      obtain rfl := List.length_eq_zero_iff.1 (Nat.le_zero.1 h1)
      rw [chunksI_nil, chunksI_nil]
    | succ n ih =>
      intro m r hr h1 h2
      by_cases h0 : r = []
      · rw [h0, chunksI_nil, chunksI_nil]
      · have h3 := fitG_pos hr h0
        have h4 := List.length_pos_iff.2 h0
        obtain ⟨m', rfl⟩ : ∃ m', m = m' + 1 := ⟨m - 1, by omega⟩
        rw [chunksI_cons _ n h0, chunksI_cons _ m' h0, ih m' _ (fun x hx => hr x (List.mem_of_mem_drop hx)) (by rw [List.length_drop]; omega) (by rw [List.length_drop]; omega)]
  unfold goneI
  have h4 := List.length_pos_iff.2 h
  obtain ⟨n, hn⟩ : ∃ n, l.length = n + 1 := ⟨l.length - 1, by omega⟩
  rw [hn, chunksI_cons _ n h, List.map_cons, e n (l.drop (fitI szN 4073 1024 l)).length _ (fun x hx => hL x (List.mem_of_mem_drop hx)) (by rw [List.length_drop]; omega) (Nat.le_refl _)]
  rfl
/-- what has been laid, what is left -/
structure GnS (sn : Nat) (sl : List Nl) (M : List UpV) (l : List Nl) : Prop where
  ok : ∀ n ∈ l, okN false n = true
  eq : M.map UpV.up ++ goneI szN l = goneI szN sl
  len : M.length + l.length ≤ sn
theorem GnS.step {sn : Nat} {sl : List Nl} {M : List UpV} {l : List Nl} (h : GnS sn sl M l) (h0 : l ≠ []) {i : Nat} (hi : fitI szN 4073 1024 l = i) {x : UpV} (hx : x.up = mkG (l.take i)) : GnS sn sl (M ++ [x]) (l.drop i) := by
  have h1 := fitG_pos h.ok h0
  have h4 := List.length_pos_iff.2 h0
  refine ⟨fun n hn => h.ok n (List.mem_of_mem_drop hn), ?_, ?_⟩
  · rw [← h.eq, goneI_step h.ok h0, hi, List.map_append, List.append_assoc, List.map_cons, hx]
    rfl
  · have := h.len
    rw [List.length_append, List.length_drop, List.length_singleton]
    omega
set_option maxRecDepth 100000 in
set_option maxHeartbeats 8000000 in
theorem rgone_any {w : World} {sa : Option Addr} {sn sc : Nat} {sl : List Nl} (h : SlOk RNl NlOk w ⟨sa, sn, sc, sl⟩) (hL : ∀ n ∈ sl, okN false n = true) (hmx : sn ≤ 4611686) (four : Bool) : Calls Tryz.prog 60 #[.slice sa sn sc, .bool four] w fun e w' => ∃ v M, e = .returned v ∧ OwnP RUp UpOk w' w.heap.size v M ∧ M.map UpV.up = goneI szN sl ∧ Below w.heap.size w w' := by
  have HH := Lib.hid hmx
  have hG0 : GnS sn sl [] sl := ⟨hL, rfl, by rw [List.length_nil, Nat.zero_add]; exact Nat.le_of_eq h.sl.len.symm⟩
  have HG0 := Lib.hid (And.intro hG0 h)
  clear h hL hG0 hmx
  go_enter Tryz.func60, Tryz.ntmps60
  go_wp2_with fail
  go_loopw [0, 5] (fun lv ov wr => ∃ (l : SlV Nl) (M : List UpV), lv = .slice l.a l.n l.c ∧ SlOk RNl NlOk w l ∧ GnS sn sl M l.l ∧ OwnP RUp UpOk wr w.heap.size ov M ∧ Below w.heap.size w wr) (fun lv _ _ => lenV lv)
  case atStart => exact ⟨⟨sa, sn, sc, sl⟩, [], rfl, HG0.out.2, HG0.out.1, OwnP.nil, Below.refl _ _⟩
  case round =>
    obtain ⟨⟨la, ln, lc, ll⟩, M, rfl, hs, hg, hown, hb⟩ := hrel
    dsimp only at *
    obtain ⟨w2, rfl⟩ : ∃ w2 : World, w2 = wr := ⟨_, rfl⟩
    obtain ⟨oc, cc, rfl, -, -⟩ := hown.own.sl0
    have hln : ln = ll.length := hs.sl.len
    have hmax : ln ≤ maxLen := hs.sl.max
    have hlc : ln ≤ lc := hs.nc
    by_cases h0 : 0 < ln
    · have hil : (0 < ln) = True := eq_true h0
      have hne : ll ≠ [] := fun e => by rw [e, List.length_nil] at hln; omega
      have hmm : M.length + 1 ≤ 4611686 := by have := hg.len; have := HH.out; omega
      have HM := Lib.hid hmm
      have G := Lib.hid (And.intro hs (And.intro hg (And.intro hown (And.intro hb (And.intro hne hln)))))
      have HLN := Lib.hid hln
      generalize M.length = m at *
      clear hs hg hown hb hne hmm hln h0
      go_wp2_with fail
      go_loopw [6] (fun iv wr => ∃ i : Nat, i ≤ ln ∧ iv = .int .i64 i ∧ (i ≤ 1024 ∧ szs szN (ll.take i) ≤ 4073) ∧ Below w2.heap.size w2 wr) (fun iv _ => ln - (intOf iv).toNat)
      case atStart => exact ⟨0, Nat.zero_le _, rfl, ⟨Nat.zero_le _, by simp [szs]⟩, Below.refl _ _⟩
      case round =>
        obtain ⟨i, hi, rfl, hr, hb⟩ := hrel
        obtain ⟨w4, rfl⟩ : ∃ w4 : World, w4 = wr := ⟨_, rfl⟩
        have hi0 : ((0 : Int) ≤ (i : Int)) = True := by simp
        have hbw : Below w.heap.size w w4 := bcall G.out.2.2.2.1 (Nat.le_refl _) hb
        by_cases hlt : i < ln
        · have hit : ((i : Int) < (ln : Int)) = True := by simp; omega
          obtain ⟨j, hj⟩ : ∃ j : Nat, i + 1 = j := ⟨_, rfl⟩
          have hw3 : wrap64 ((i : Int) + 1) = (j : Int) := by rw [wrapS hlt hmax, hj]
          have hje : ((i : Int) + 1) = (j : Int) := by omega
          have hjn : j ≤ ln := by omega
          have hj0 : ((0 : Int) ≤ (j : Int)) = True := by simp
          have hjw : IntKind.i64.wrap (j : Int) = (j : Int) := IntWalk.i64_in _ (by unfold maxLen at hmax; omega)
          have hjn2 : ((j : Int) ≤ (lc : Int)) = True := by simp; omega
          obtain ⟨s1, hr1, hr2, hst, hsn, -⟩ := Rep.cut_to TNl (G.out.1.keepN hbw).sl hlc G.out.1.nil (i := j) hjn
          have hU : UpOk w4 ⟨⟨s1, j, lc, ll.take j⟩, ⟨none, 0, 0, []⟩, atZV, false⟩ := ⟨⟨hst, hsn, Nat.le_trans hjn hlc, G.out.1.cm, fun n hn => G.out.1.all n (List.mem_of_mem_take hn)⟩, slZ, atZ_ok _⟩
          have HC := Lib.hid (rucheck_any hU four)
          have hU2 : chkU four (UpV.up ⟨⟨s1, j, lc, ll.take j⟩, ⟨none, 0, 0, []⟩, atZV, false⟩) = (decide (j ≤ 1024) && decide (szs szN (ll.take j) ≤ 4073)) := by
            have := chkU_G (four := four) (L := ll.take j) (fun n hn => G.out.2.1.ok n (List.mem_of_mem_take hn))
            rw [List.length_take, Nat.min_eq_left (by rw [← HLN.out]; exact hjn)] at this
            exact this
          rw [hU2] at HC
          obtain ⟨v, hv⟩ : ∃ b, (decide (j ≤ 1024) && decide (szs szN (ll.take j) ≤ 4073)) = b := ⟨_, rfl⟩
          rw [hv] at HC
          have HV := Lib.hid hv
          have HJ := Lib.hid hj
          have HR := Lib.hid (And.intro hr (And.intro hlt hi))
          have HB := Lib.hid hb
          unfold UpV.v atZV at HC
          dsimp only at HC
          clear hv hU2 hU hst hsn hj hbw hb hr
          go_wp2_with fail
          refine (HC.out).mono ?_
          rintro e V2 ⟨rfl, hb2⟩
          have HB2 := Lib.hid (bcall HB.out (Nat.le_refl _) hb2)
          clear hr1 hr2 hw3 hje hjn hj0 hjn2 hjw hb2 HC HB
          cases v
          · have hres : fitI szN 4073 1024 ll = i := by
              have hv := HV.out
              rw [Bool.and_eq_false_iff, decide_eq_false_iff_not, decide_eq_false_iff_not] at hv
              have h4 := HJ.out
              refine fitI_is (by rw [← HLN.out]; exact HR.out.2.2) HR.out.1.1 HR.out.1.2 fun h6 h7 => ?_
              rw [h4]
              omega
            have h1i : 1 ≤ i := by rw [← hres]; exact fitG_pos G.out.2.1.ok G.out.2.2.2.2.1
            have hin : i ≤ ln := hi
            have hi2 : ((i : Int) ≤ (lc : Int)) = True := by simp; omega
            have hi3 : ((i : Int) ≤ (ln : Int)) = True := eq_true (by omega)
            have HX := Lib.hid hres
            have hbw : Below w.heap.size w V2 := bcall G.out.2.2.2.1 (Nat.le_refl _) HB2.out
            obtain ⟨W, hW⟩ : ∃ W : World, W = V2 := ⟨_, rfl⟩
            subst hW
            have hsW := G.out.1.keepN hbw
            obtain ⟨s1, hr1, hr2, hst, hsn, -⟩ := Rep.cut_to TNl hsW.sl hlc G.out.1.nil (i := i) hin
            obtain ⟨s2, hq1, hq2, hsf, hsfn, -⟩ := Rep.cut_from TNl G.out.1.sl hlc G.out.1.nil (i := i) hin
            obtain ⟨dn, hdn⟩ : ∃ dn, ln - i = dn := ⟨_, rfl⟩
            rw [hdn] at hq1 hq2 hsf
            have HDN := Lib.hid hdn
            have HS2 := Lib.hid (show SlOk RNl NlOk w ⟨s2, dn, lc - i, ll.drop i⟩ from ⟨hsf, hsfn, by show dn ≤ lc - i; omega, by have := G.out.1.cm; show lc - i ≤ _; dsimp only at this; omega, fun n hn => G.out.1.all n (List.mem_of_mem_drop hn)⟩)
            have hal0 := (Below.refl W.heap.size W).alloc (Nat.le_refl _) (.cells #[] 60)
            have hem : RNl.Own (W.alloc (.cells #[] 60)) W.heap.size (.slice (some ⟨W.heap.size, 0, none⟩) 0 0) ([] : List Nl) := Rep.own_empty (hnew _ _) (Nat.le_refl _)
            have N1 := Lib.hid (And.intro hal0 (And.intro hem (And.intro (hst.keep hal0) hsn)))
            clear hdn hres hbw hsW hst hsn hsf hsfn hal0 hem
            go_wp2_with (at_builtin; refine halt ?_)
            refine Halted.go ?_
            clear hr1 hr2
            generalize W.alloc (.cells #[] 60) = V8 at *
            have hlt9 : (ll.take i).length = i := by have := HLN.out; exact List.length_take.trans (by omega)
            refine Rep.append_list TNl rfl _ _ rfl rfl N1.out.2.1 (L := []) (M := ll.take i) rfl N1.out.2.2.1 N1.out.2.2.2 (by rw [List.length_nil]; unfold maxLen; have := HLN.out; have := G.out.2.1.len; have := HH.out; omega) (by rw [List.length_nil]; have := HLN.out; have := G.out.2.1.len; have := HH.out; omega) N1.out.1.size ?_
            intro v9 V9 hown9 hb9 _
            rw [List.nil_append] at hown9
            obtain ⟨s9, rfl, hl9, hs9, hn9, -⟩ := Own_slok (ok := NlOk) hown9 (fun n hn => G.out.1.all n (List.mem_of_mem_take hn))
            have hb9' : Below W.heap.size W V9 := N1.out.1.trans hb9
            have N2 := Lib.hid (And.intro hb9' (And.intro hs9 (And.intro hn9 hl9)))
            clear hown9 hb9 hb9' hs9 hn9 hl9 N1 hlt9
            go_wp2_with (at_builtin; refine halt ?_)
            refine Halted.go ?_
            have hal := (Below.refl V9.heap.size V9).alloc (Nat.le_refl _) (.cells #[.slice s9.a s9.n s9.c, .slice none 0 0, .int .i64 0, .slice none 0 0, .int .u32 0, .int .i64 0, .int .i64 0, .slice none 0 0, .bool false] 42)
            have hbA : Below w2.heap.size w2 (V9.alloc (.cells #[.slice s9.a s9.n s9.c, .slice none 0 0, .int .i64 0, .slice none 0 0, .int .u32 0, .int .i64 0, .int .i64 0, .slice none 0 0, .bool false] 42)) := bcall (bcall HB2.out (Nat.le_refl _) N2.out.1) (Nat.le_refl _) hal
            refine Rep.append_listP TUp rfl _ _ rfl rfl (G.out.2.2.1.below hbA) rfl (Rep.sl_one (R := RUp) (y := (⟨s9, ⟨none, 0, 0, []⟩, atZV, false⟩ : UpV)) (hnew _ _)) (fun h => by cases h) (fun y hy => by
              rw [List.mem_singleton] at hy
              subst hy
              refine UpOk.firm ⟨N2.out.2.1.keepN hal, slZ, atZ_ok _⟩ (N2.out.2.2.1.far fun k hk => ?_) FarS.none (fun _ _ => atZ_ok _)
              exact Nat.lt_of_lt_of_le (World.ownsRow.lt G.out.2.2.1.own k hk).2 (Nat.le_trans HB2.out.size (Nat.le_refl _))) (by have := G.out.2.1.len; have := HH.out; unfold maxLen; omega) (by have := G.out.2.1.len; have := HH.out; omega) (Nat.le_trans G.out.2.2.2.1.size hbA.size) ?_
            intro v10 V10 hown10 hb10
            have HO := Lib.hid (And.intro hown10 (hb10))
            have HBB := Lib.hid (show Below w.heap.size w V10 from (bcall G.out.2.2.2.1 (Nat.le_refl _) hbA).trans hb10)
            have HGS := Lib.hid (G.out.2.1.step G.out.2.2.2.2.1 HX.out (x := (⟨s9, ⟨none, 0, 0, []⟩, atZV, false⟩ : UpV)) (by show (⟨s9.l, [], atZV.at, false⟩ : Up) = _; rw [N2.out.2.2.2]; rfl))
            clear hown10 hb10 hal hbA
            go_wp2_with fail
            exact ⟨⟨⟨s2, dn, lc - i, ll.drop i⟩, _, rfl, HS2.out, HGS.out, HO.out.1, HBB.out⟩, by show dn < ln; have := HDN.out; omega⟩
          · have hres : j ≤ 1024 ∧ szs szN (ll.take j) ≤ 4073 := by
              have hv := HV.out
              rwa [Bool.and_eq_true, decide_eq_true_eq, decide_eq_true_eq] at hv
            have HE := Lib.hid hres
            have hw3 := wrapS hlt hmax
            clear hres
            go_wp2_with fail
            exact ⟨⟨i + 1, hlt, by first | rw [hw3] | rw [Int.natCast_succ], by rw [HJ.out]; exact HE.out, HB2.out⟩, by first | (rw [hw3]; exact mSucc hlt) | (rw [← Int.natCast_succ]; exact mSucc hlt)⟩
        · obtain rfl : i = ln := by omega
          have hit : ((i : Int) < (i : Int)) = False := by simp
          have HR := Lib.hid (And.intro hr (And.intro hlt hi))
          have HB2 := Lib.hid hb
          clear hb hbw
          have hres : fitI szN 4073 1024 ll = i := fitI_is (Nat.le_of_eq HLN.out) hr.1 hr.2 fun h6 _ => absurd h6 (by rw [HLN.out]; exact Nat.lt_irrefl _)
          clear hr
          have h1i : 1 ≤ i := by rw [← hres]; exact fitG_pos G.out.2.1.ok G.out.2.2.2.2.1
          have hin : i ≤ i := hi
          have hi2 : ((i : Int) ≤ (lc : Int)) = True := by simp; omega
          have hi3 : ((i : Int) ≤ (i : Int)) = True := eq_true (by omega)
          have HX := Lib.hid hres
          have hbw : Below w.heap.size w w4 := bcall G.out.2.2.2.1 (Nat.le_refl _) HB2.out
          obtain ⟨W, hW⟩ : ∃ W : World, W = w4 := ⟨_, rfl⟩
          subst hW
          have hsW := G.out.1.keepN hbw
          obtain ⟨s1, hr1, hr2, hst, hsn, -⟩ := Rep.cut_to TNl hsW.sl hlc G.out.1.nil (i := i) hin
          obtain ⟨s2, hq1, hq2, hsf, hsfn, -⟩ := Rep.cut_from TNl G.out.1.sl hlc G.out.1.nil (i := i) hin
          obtain ⟨dn, hdn⟩ : ∃ dn, i - i = dn := ⟨_, rfl⟩
          rw [hdn] at hq1 hq2 hsf
          have HDN := Lib.hid hdn
          have HS2 := Lib.hid (show SlOk RNl NlOk w ⟨s2, dn, lc - i, ll.drop i⟩ from ⟨hsf, hsfn, by show dn ≤ lc - i; omega, by have := G.out.1.cm; show lc - i ≤ _; dsimp only at this; omega, fun n hn => G.out.1.all n (List.mem_of_mem_drop hn)⟩)
          have hal0 := (Below.refl W.heap.size W).alloc (Nat.le_refl _) (.cells #[] 60)
          have hem : RNl.Own (W.alloc (.cells #[] 60)) W.heap.size (.slice (some ⟨W.heap.size, 0, none⟩) 0 0) ([] : List Nl) := Rep.own_empty (hnew _ _) (Nat.le_refl _)
          have N1 := Lib.hid (And.intro hal0 (And.intro hem (And.intro (hst.keep hal0) hsn)))
          clear hdn hres hbw hsW hst hsn hsf hsfn hal0 hem
          go_wp2_with (at_builtin; refine halt ?_)
          refine Halted.go ?_
          clear hr1 hr2
          generalize W.alloc (.cells #[] 60) = V8 at *
          have hlt9 : (ll.take i).length = i := by have := HLN.out; exact List.length_take.trans (by omega)
          refine Rep.append_list TNl rfl _ _ rfl rfl N1.out.2.1 (L := []) (M := ll.take i) rfl N1.out.2.2.1 N1.out.2.2.2 (by rw [List.length_nil]; unfold maxLen; have := HLN.out; have := G.out.2.1.len; have := HH.out; omega) (by rw [List.length_nil]; have := HLN.out; have := G.out.2.1.len; have := HH.out; omega) N1.out.1.size ?_
          intro v9 V9 hown9 hb9 _
          rw [List.nil_append] at hown9
          obtain ⟨s9, rfl, hl9, hs9, hn9, -⟩ := Own_slok (ok := NlOk) hown9 (fun n hn => G.out.1.all n (List.mem_of_mem_take hn))
          have hb9' : Below W.heap.size W V9 := N1.out.1.trans hb9
          have N2 := Lib.hid (And.intro hb9' (And.intro hs9 (And.intro hn9 hl9)))
          clear hown9 hb9 hb9' hs9 hn9 hl9 N1 hlt9
          go_wp2_with (at_builtin; refine halt ?_)
          refine Halted.go ?_
          have hal := (Below.refl V9.heap.size V9).alloc (Nat.le_refl _) (.cells #[.slice s9.a s9.n s9.c, .slice none 0 0, .int .i64 0, .slice none 0 0, .int .u32 0, .int .i64 0, .int .i64 0, .slice none 0 0, .bool false] 42)
          have hbA : Below w2.heap.size w2 (V9.alloc (.cells #[.slice s9.a s9.n s9.c, .slice none 0 0, .int .i64 0, .slice none 0 0, .int .u32 0, .int .i64 0, .int .i64 0, .slice none 0 0, .bool false] 42)) := bcall (bcall HB2.out (Nat.le_refl _) N2.out.1) (Nat.le_refl _) hal
          refine Rep.append_listP TUp rfl _ _ rfl rfl (G.out.2.2.1.below hbA) rfl (Rep.sl_one (R := RUp) (y := (⟨s9, ⟨none, 0, 0, []⟩, atZV, false⟩ : UpV)) (hnew _ _)) (fun h => by cases h) (fun y hy => by
            rw [List.mem_singleton] at hy
            subst hy
            refine UpOk.firm ⟨N2.out.2.1.keepN hal, slZ, atZ_ok _⟩ (N2.out.2.2.1.far fun k hk => ?_) FarS.none (fun _ _ => atZ_ok _)
            exact Nat.lt_of_lt_of_le (World.ownsRow.lt G.out.2.2.1.own k hk).2 (Nat.le_trans HB2.out.size (Nat.le_refl _))) (by have := G.out.2.1.len; have := HH.out; unfold maxLen; omega) (by have := G.out.2.1.len; have := HH.out; omega) (Nat.le_trans G.out.2.2.2.1.size hbA.size) ?_
          intro v10 V10 hown10 hb10
          have HO := Lib.hid (And.intro hown10 (hb10))
          have HBB := Lib.hid (show Below w.heap.size w V10 from (bcall G.out.2.2.2.1 (Nat.le_refl _) hbA).trans hb10)
          have HGS := Lib.hid (G.out.2.1.step G.out.2.2.2.2.1 HX.out (x := (⟨s9, ⟨none, 0, 0, []⟩, atZV, false⟩ : UpV)) (by show (⟨s9.l, [], atZV.at, false⟩ : Up) = _; rw [N2.out.2.2.2]; rfl))
          clear hown10 hb10 hal hbA
          go_wp2_with fail
          exact ⟨⟨⟨s2, dn, lc - i, ll.drop i⟩, _, rfl, HS2.out, HGS.out, HO.out.1, HBB.out⟩, by show dn < i; have := HDN.out; omega⟩
    · obtain rfl : ln = 0 := by omega
      obtain rfl : ll = [] := List.length_eq_zero_iff.1 hln.symm
      have HE := Lib.hid (And.intro hown (And.intro (show M.map UpV.up = goneI szN sl from by rw [← hg.eq, show goneI szN ([] : List Nl) = [] from rfl, List.append_nil]) hb))
      generalize M.length = m at *
      clear hs hg hown hb hln hmax hlc h0
      go_wp2_with fail
      go_ret
      exact ⟨_, M, rfl, HE.out.1, HE.out.2⟩
end Go.Proofs.YtadoflcomienoaaGreat
