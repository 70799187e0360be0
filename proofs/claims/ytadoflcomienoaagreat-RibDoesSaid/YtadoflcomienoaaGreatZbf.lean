/- lives: what must come of every program. -/
import Derived.Test.YtadoflcomienoaaGreatZav
import Derived.Test.YtadoflcomienoaaGreatZbe
import Derived.Test.YtadoflcomienoaaGreatZat
import Derived.Test.YtadoflcomienoaaGreatZai
namespace Go.Proofs.YtadoflcomienoaaGreat
open Go.RowKit
open Go.ChangeMaps (setBlock)

theorem LvS.addB {w W W' : World} {b : Nat} {asn room ref : Int} {S : List Rt} {P : World → Prop} (h : LvS w b asn room S ref P W) (hb : Below W.heap.size W W') {q : Nat} {o : Obj} (hq : W.heap.size ≤ q) (hw : W'.heap[q]? = some o) : LvS w b asn room S ref (fun V => P V ∧ V.heap[q]? = some o) W' := by
  obtain ⟨R, n, G, h1, h2, h3, h4, h5, h6⟩ := h
  refine ⟨R, n, G, h1, h2.below hb, h3, h4, bcall h5 (Nat.le_refl _) hb, (h6.below hb).and fun w' hs he => ?_⟩
  exact (he q (lt_of_blk hw) (fun hf => by have := h2.lt hf; omega)).trans hw
theorem rt_one {sl : List RtV} {x : Rt} (h : sl.map RtV.rt = [x]) : (sl.getD 0 default).r = x.r := by
  have h2 : sl.length = 1 := by have := congrArg List.length h; rwa [List.length_map] at this
  match sl, h2 with
  | [z], _ =>
    rw [List.map_cons, List.map_nil, List.cons.injEq] at h
    exact congrArg Rt.r h.1
structure LiS (w : World) (b : Nat) (P : World → Prop) (b0 o0 qy : Nat) (y : AtV) (W : World) : Prop where
  lv : LvS w b 65000 2 [] 1 P W
  c : W.cell? ⟨b0, o0, none⟩ = some (.int .i64 2)
  bx : BxA qy y W
theorem LiS.keep {w : World} {b : Nat} {P : World → Prop} {b0 o0 qy : Nat} {y : AtV} {W W' : World} (h : LiS w b P b0 o0 qy y W) (hb : Below W.heap.size W W') : LiS w b P b0 o0 qy y W' :=
  ⟨h.lv.keep hb, (hb.cell (p := ⟨b0, o0, none⟩) (World.block_lt_of_cell? _ _ h.c)).trans h.c, h.bx.keep hb⟩
theorem chg_one {S S' : List Rt} {L : List PK} {k : PK} (h : Chg S S' L) (h1 : ∀ x ∈ S, x.k = k) (h2 : ∀ x ∈ S', x.k = k) (hne : routesR S k ≠ routesR S' k) : L = [k] := by
  refine ordK_ext h.ord (List.pairwise_singleton _ _) fun k' => ?_
  rw [h.is, List.mem_singleton]
  constructor
  · intro h3
    by_cases e : k' = k
    · exact e
    · refine absurd ?_ h3
      have e1 : ∀ {S : List Rt}, (∀ x ∈ S, x.k = k) → atP S k' = [] := fun {S} hS => by
        unfold atP
        rw [List.filter_eq_nil_iff]
        intro x hx
        rw [decide_eq_true_eq, hS x hx]
        exact Ne.symm e
      unfold routesR
      rw [e1 h1, e1 h2]
  · rintro rfl; exact hne
theorem own_one {w : World} {B : Nat} {v : Value} {k : PK} (h : RPk.Own w B v [k]) : ∃ a c, v = .slice a 1 c := by
  obtain ⟨a, c, rfl, -, -⟩ := h.sl0
  exact ⟨a, c, rfl⟩
theorem nl_ok (n : Int) (h : I64 n) (W : World) : NlOk W ⟨n, 167772160, 8⟩ := ⟨by show 167772160 < 4294967296; omega, h, by show I64 8; unfold I64; decide⟩
theorem nl3 {W : World} {q : Nat} (h : W.heap[q]? = some (.cells #[.int .i64 1, .int .u32 167772160, .int .i64 8, .int .i64 2, .int .u32 167772160, .int .i64 8, .int .i64 3, .int .u32 167772160, .int .i64 8] 60)) : SlOk RNl NlOk W ⟨some ⟨q, 0, none⟩, 3, 3, [(⟨1, 167772160, 8⟩ : Nl), (⟨2, 167772160, 8⟩ : Nl), (⟨3, 167772160, 8⟩ : Nl)]⟩ :=
  ⟨Rep.sl_flat (R := RNl) (M := [(⟨1, 167772160, 8⟩ : Nl), (⟨2, 167772160, 8⟩ : Nl), (⟨3, 167772160, 8⟩ : Nl)]) h (by unfold maxLen; simp), (fun h => by cases h), Nat.le_refl _, by show 3 ≤ maxLen; unfold maxLen; omega, fun n hn => by
    simp only [List.mem_cons, List.not_mem_nil, or_false] at hn
    rcases hn with rfl | rfl | rfl <;> exact nl_ok _ (by unfold I64; decide) _⟩
theorem nl1 {W : World} {q : Nat} {n : Int} (hn : I64 n) (h : W.heap[q]? = some (.cells #[.int .i64 n, .int .u32 167772160, .int .i64 8] 60)) : SlOk RNl NlOk W ⟨some ⟨q, 0, none⟩, 1, 1, [⟨n, 167772160, 8⟩]⟩ :=
  ⟨Rep.sl_one (R := RNl) (y := (⟨n, 167772160, 8⟩ : Nl)) h, (fun h => by cases h), Nat.le_refl _, by show 1 ≤ maxLen; unfold maxLen; omega, fun z hz => by
    rw [List.mem_singleton] at hz
    subst hz
    exact nl_ok _ hn _⟩
theorem nz_ok (W : World) : SlOk RNl NlOk W ⟨none, 0, 0, []⟩ := slZ
theorem newz {B : Nat} : NewS B (⟨none, 0, 0, []⟩ : SlV Nl) := fun _ _ e => by cases e
theorem step14a : applyR 65000 2 1 ⟨[], [(⟨1, 167772160, 8⟩ : Nl), (⟨2, 167772160, 8⟩ : Nl), (⟨3, 167772160, 8⟩ : Nl)], saidA 7 9, false⟩ ([], 0) = ([(⟨1, ((167772160, 8) : PK), 1, saidA 7 9⟩ : Rt), (⟨1, ((167772160, 8) : PK), 2, saidA 7 9⟩ : Rt)], 1) := by decide
theorem step14b : applyR 65000 2 1 ⟨[(⟨1, 167772160, 8⟩ : Nl)], [], atZ, false⟩ ([(⟨1, ((167772160, 8) : PK), 1, saidA 7 9⟩ : Rt), (⟨1, ((167772160, 8) : PK), 2, saidA 7 9⟩ : Rt)], 1) = ([(⟨1, ((167772160, 8) : PK), 2, saidA 7 9⟩ : Rt)], 1) := by decide
theorem step14c : applyR 65000 2 1 ⟨[], [(⟨2, 167772160, 8⟩ : Nl)], saidA 65000 9, false⟩ ([(⟨1, ((167772160, 8) : PK), 2, saidA 7 9⟩ : Rt)], 1) = ([], 1) := by decide
theorem step14d : applyR 65000 2 2 ⟨[], [(⟨2, 167772160, 8⟩ : Nl)], saidA 8 9, false⟩ ([], 1) = ([(⟨2, ((167772160, 8) : PK), 2, saidA 8 9⟩ : Rt)], 1) := by decide
theorem step14e : flushR 2 [(⟨2, ((167772160, 8) : PK), 2, saidA 8 9⟩ : Rt)] = [] := by decide
theorem may14a : mayR 1 ⟨[], [(⟨1, 167772160, 8⟩ : Nl), (⟨2, 167772160, 8⟩ : Nl), (⟨3, 167772160, 8⟩ : Nl)], saidA 7 9, false⟩ = true := by decide
theorem may14b : mayR 1 ⟨[(⟨1, 167772160, 8⟩ : Nl)], [], atZ, false⟩ = true := by decide
theorem may14c : mayR 1 ⟨[], [(⟨2, 167772160, 8⟩ : Nl)], saidA 65000 9, false⟩ = true := by decide
theorem may14d : mayR 2 ⟨[], [(⟨2, 167772160, 8⟩ : Nl)], saidA 8 9, false⟩ = true := by decide
theorem may14e : mayR 16 ⟨[], [], atZ, false⟩ = false := by decide
theorem ne14a : routesR [] ((167772160, 8) : PK) ≠ routesR [(⟨1, ((167772160, 8) : PK), 1, saidA 7 9⟩ : Rt), (⟨1, ((167772160, 8) : PK), 2, saidA 7 9⟩ : Rt)] ((167772160, 8) : PK) := by decide
theorem ne14b : routesR [(⟨1, ((167772160, 8) : PK), 1, saidA 7 9⟩ : Rt), (⟨1, ((167772160, 8) : PK), 2, saidA 7 9⟩ : Rt)] ((167772160, 8) : PK) ≠ routesR [(⟨1, ((167772160, 8) : PK), 2, saidA 7 9⟩ : Rt)] ((167772160, 8) : PK) := by decide
theorem ne14c : routesR [(⟨1, ((167772160, 8) : PK), 2, saidA 7 9⟩ : Rt)] ((167772160, 8) : PK) ≠ routesR [] ((167772160, 8) : PK) := by decide
theorem ne14d : routesR [] ((167772160, 8) : PK) ≠ routesR [(⟨2, ((167772160, 8) : PK), 2, saidA 8 9⟩ : Rt)] ((167772160, 8) : PK) := by decide
theorem ne14e : routesR [(⟨2, ((167772160, 8) : PK), 2, saidA 8 9⟩ : Rt)] ((167772160, 8) : PK) ≠ routesR [] ((167772160, 8) : PK) := by decide
theorem rt14 : routesR [(⟨2, ((167772160, 8) : PK), 2, saidA 8 9⟩ : Rt)] ((167772160, 8) : PK) = [(⟨2, ((167772160, 8) : PK), 2, saidA 8 9⟩ : Rt)] := by decide
theorem lk14 : lookR [(⟨2, ((167772160, 8) : PK), 2, saidA 8 9⟩ : Rt)] (2, ((167772160, 8) : PK), 2) = some (⟨2, ((167772160, 8) : PK), 2, saidA 8 9⟩ : Rt) := by decide
theorem cn14 : cntR [(⟨2, ((167772160, 8) : PK), 2, saidA 8 9⟩ : Rt)] 2 = 1 := by decide
set_option maxRecDepth 100000 in
set_option maxHeartbeats 16000000 in
theorem lives14 (w : World) : Calls Tryz.prog 23 #[] w fun e w' => e = .returned (.bool true) ∧ Below w.heap.size w w' := by
  go_enter Tryz.func23, Tryz.ntmps23
  generalize hR14 : Code.region 14 _ _ = C14
  have HC14 := Lib.hid (show C14 = Code.region 14 ops14.toArray true from hR14.symm.trans (by kernel_rfl))
  clear hR14
  go_wp2_with fail
  refine (lv_new w w (Below.refl _ _) 65000 2 (by decide)).mono ?_
  rintro e X0 ⟨b, rfl, hst⟩
  have FS := Lib.hid hst
  clear hst
  have G0 := Lib.hid (And.intro FS.out (Below.refl X0.heap.size X0))
  clear FS
  go_wp2_with fail
  refine (ten14_any 1 _).mono ?_
  rintro e T10 ⟨rfl, hb⟩
  have G1 := Lib.hid (And.intro G0.out.1 (bcall G0.out.2 (Nat.le_refl _) hb))
  clear hb G0
  go_wp2_with fail
  refine (ten14_any 2 _).mono ?_
  rintro e T11 ⟨rfl, hb⟩
  have G2 := Lib.hid (And.intro G1.out.1 (bcall G1.out.2 (Nat.le_refl _) hb))
  clear hb G1
  go_wp2_with fail
  refine (ten14_any 3 _).mono ?_
  rintro e T12 ⟨rfl, hb⟩
  have G3 := Lib.hid (And.intro G2.out.1 (bcall G2.out.2 (Nat.le_refl _) hb))
  clear hb G2
  have hal := (Below.refl T12.heap.size T12).alloc (Nat.le_refl _) (.cells #[.int .i64 1, .int .u32 167772160, .int .i64 8, .int .i64 2, .int .u32 167772160, .int .i64 8, .int .i64 3, .int .u32 167772160, .int .i64 8] 60)
  have hnl := nl3 (hnew T12 (.cells #[.int .i64 1, .int .u32 167772160, .int .i64 8, .int .i64 2, .int .u32 167772160, .int .i64 8, .int .i64 3, .int .u32 167772160, .int .i64 8] 60))
  have K0 := Lib.hid (And.intro G3.out.1 (And.intro (bcall G3.out.2 (Nat.le_refl _) hal) (And.intro hnl (G3.out.2.size))))
  clear hal hnl G3
  have HSD := said14_any 7 (by unfold I64; decide) 9 (by decide) (T12.alloc (.cells #[.int .i64 1, .int .u32 167772160, .int .i64 8, .int .i64 2, .int .u32 167772160, .int .i64 8, .int .i64 3, .int .u32 167772160, .int .i64 8] 60))
  unfold AtV.v at HSD
  have HSD := Lib.hid HSD
  go_wp2_with fail
  generalize T12.alloc (.cells #[.int .i64 1, .int .u32 167772160, .int .i64 8, .int .i64 2, .int .u32 167772160, .int .i64 8, .int .i64 3, .int .u32 167772160, .int .i64 8] 60) = V1 at *
  generalize T12.heap.size = q1 at *
  refine (HSD.out).mono ?_
  rintro e U1 ⟨y1, rfl, hy1, hy2, hy3, hb⟩
  have hup : UpOk U1 (⟨(⟨none, 0, 0, []⟩ : SlV Nl), ⟨some ⟨q1, 0, none⟩, 3, 3, [(⟨1, 167772160, 8⟩ : Nl), (⟨2, 167772160, 8⟩ : Nl), (⟨3, 167772160, 8⟩ : Nl)]⟩, y1, false⟩ : UpV) := ⟨nz_ok _, K0.out.2.2.1.keepN hb, hy1⟩
  have hup2 : UpV.up (⟨(⟨none, 0, 0, []⟩ : SlV Nl), ⟨some ⟨q1, 0, none⟩, 3, 3, [(⟨1, 167772160, 8⟩ : Nl), (⟨2, 167772160, 8⟩ : Nl), (⟨3, 167772160, 8⟩ : Nl)]⟩, y1, false⟩ : UpV) = ⟨[], [(⟨1, 167772160, 8⟩ : Nl), (⟨2, 167772160, 8⟩ : Nl), (⟨3, 167772160, 8⟩ : Nl)], saidA 7 9, false⟩ := by unfold UpV.up; dsimp only; rw [hy3]
  have hbw := bcall K0.out.2.1 (Nat.le_refl _) hb
  have hlt : X0.heap.size ≤ q1 := K0.out.2.2.2
  have HAP := lv_apply K0.out.1 hbw hup (.inl newz) (.inl fun _ a e => by injection e with e; rw [← e]; exact hlt) (NewA.out (B := X0.heap.size) ⟨fun hn a e => Nat.le_trans K0.out.2.1.size (hy2.p hn a e), fun hn a e => Nat.le_trans K0.out.2.1.size (hy2.c hn a e), fun z hz hn a e => Nat.le_trans K0.out.2.1.size (hy2.s z hz hn a e)⟩ fun k hk => hk.2) (r := 1) (by rw [hup2]; exact may14a) (show (0 : Nat) ≤ 3000 ∧ 3 ≤ 3000 by decide) (show ([] : List Rt).length + 3 ≤ 3000000 by decide) (show (0 : Int) ≤ 0 ∧ 0 + ((3 : Nat) : Int) ≤ 900000000 by decide)
  rw [hup2, step14a] at HAP
  unfold UpV.v at HAP
  dsimp only at HAP
  have HAP := Lib.hid HAP
  clear hy1 hy2 hy3 hb hup hup2 hbw hlt K0 HSD
  go_wp2_with fail
  refine (HAP.out).mono ?_
  rintro e X1 ⟨v, L, rfl, ho, hc, hst⟩
  obtain rfl := chg_one hc (by decide) (by decide) ne14a
  obtain ⟨sa1, sc1, rfl⟩ := own_one ho
  have FS := Lib.hid hst
  clear ho hc hst HAP
  have G0 := Lib.hid (And.intro FS.out (Below.refl X1.heap.size X1))
  clear FS
  go_wp2_with fail
  refine (ten14_any 1 _).mono ?_
  rintro e T20 ⟨rfl, hb⟩
  have G1 := Lib.hid (And.intro G0.out.1 (bcall G0.out.2 (Nat.le_refl _) hb))
  clear hb G0
  have hal := (Below.refl T20.heap.size T20).alloc (Nat.le_refl _) (.cells #[.int .i64 1, .int .u32 167772160, .int .i64 8] 60)
  have hnl := nl1 (n := 1) (by unfold I64; decide) (hnew T20 (.cells #[.int .i64 1, .int .u32 167772160, .int .i64 8] 60))
  have K0 := Lib.hid (And.intro G1.out.1 (And.intro (bcall G1.out.2 (Nat.le_refl _) hal) (And.intro hnl (G1.out.2.size))))
  clear hal hnl G1
  have hup : UpOk (T20.alloc (.cells #[.int .i64 1, .int .u32 167772160, .int .i64 8] 60)) (⟨⟨some ⟨T20.heap.size, 0, none⟩, 1, 1, [(⟨1, 167772160, 8⟩ : Nl)]⟩, (⟨none, 0, 0, []⟩ : SlV Nl), atZV, false⟩ : UpV) := ⟨K0.out.2.2.1, nz_ok _, atZ_ok _⟩
  have hup2 : UpV.up (⟨⟨some ⟨T20.heap.size, 0, none⟩, 1, 1, [(⟨1, 167772160, 8⟩ : Nl)]⟩, (⟨none, 0, 0, []⟩ : SlV Nl), atZV, false⟩ : UpV) = ⟨[(⟨1, 167772160, 8⟩ : Nl)], [], atZ, false⟩ := rfl
  have hlt : X1.heap.size ≤ T20.heap.size := K0.out.2.2.2
  have HAP := lv_apply K0.out.1 K0.out.2.1 hup (.inl fun _ a e => by injection e with e; rw [← e]; exact hlt) (.inl newz) ⟨(fun _ a e => by cases e), (fun _ a e => by cases e), fun z hz => by cases hz⟩ (r := 1) (by rw [hup2]; exact may14b) (show 1 ≤ 3000 ∧ (0 : Nat) ≤ 3000 by decide) (show ([(⟨1, ((167772160, 8) : PK), 1, saidA 7 9⟩ : Rt), (⟨1, ((167772160, 8) : PK), 2, saidA 7 9⟩ : Rt)] : List Rt).length + 0 ≤ 3000000 by decide) (show (0 : Int) ≤ 1 ∧ 1 + ((0 : Nat) : Int) ≤ 900000000 by decide)
  rw [hup2, step14b] at HAP
  unfold UpV.v atZV at HAP
  dsimp only at HAP
  have HAP := Lib.hid HAP
  clear hup hup2 hlt K0
  go_wp2_with fail
  generalize T20.alloc (.cells #[.int .i64 1, .int .u32 167772160, .int .i64 8] 60) = V2 at *
  generalize T20.heap.size = q2 at *
  refine (HAP.out).mono ?_
  rintro e X2 ⟨v, L, rfl, ho, hc, hst⟩
  obtain rfl := chg_one hc (by decide) (by decide) ne14b
  obtain ⟨sa2, sc2, rfl⟩ := own_one ho
  have FS := Lib.hid hst
  clear ho hc hst HAP
  have G0 := Lib.hid (And.intro FS.out (Below.refl X2.heap.size X2))
  clear FS
  go_wp2_with fail
  refine (ten14_any 2 _).mono ?_
  rintro e T30 ⟨rfl, hb⟩
  have G1 := Lib.hid (And.intro G0.out.1 (bcall G0.out.2 (Nat.le_refl _) hb))
  clear hb G0
  have hal := (Below.refl T30.heap.size T30).alloc (Nat.le_refl _) (.cells #[.int .i64 2, .int .u32 167772160, .int .i64 8] 60)
  have hnl := nl1 (n := 2) (by unfold I64; decide) (hnew T30 (.cells #[.int .i64 2, .int .u32 167772160, .int .i64 8] 60))
  have K0 := Lib.hid (And.intro G1.out.1 (And.intro (bcall G1.out.2 (Nat.le_refl _) hal) (And.intro hnl (G1.out.2.size))))
  clear hal hnl G1
  have HSD := said14_any 65000 (by unfold I64; decide) 9 (by decide) (T30.alloc (.cells #[.int .i64 2, .int .u32 167772160, .int .i64 8] 60))
  unfold AtV.v at HSD
  have HSD := Lib.hid HSD
  go_wp2_with fail
  generalize T30.alloc (.cells #[.int .i64 2, .int .u32 167772160, .int .i64 8] 60) = V3 at *
  generalize T30.heap.size = q3 at *
  refine (HSD.out).mono ?_
  rintro e U3 ⟨y3, rfl, hy1, hy2, hy3, hb⟩
  have hup : UpOk U3 (⟨(⟨none, 0, 0, []⟩ : SlV Nl), ⟨some ⟨q3, 0, none⟩, 1, 1, [(⟨2, 167772160, 8⟩ : Nl)]⟩, y3, false⟩ : UpV) := ⟨nz_ok _, K0.out.2.2.1.keepN hb, hy1⟩
  have hup2 : UpV.up (⟨(⟨none, 0, 0, []⟩ : SlV Nl), ⟨some ⟨q3, 0, none⟩, 1, 1, [(⟨2, 167772160, 8⟩ : Nl)]⟩, y3, false⟩ : UpV) = ⟨[], [(⟨2, 167772160, 8⟩ : Nl)], saidA 65000 9, false⟩ := by unfold UpV.up; dsimp only; rw [hy3]
  have hbw := bcall K0.out.2.1 (Nat.le_refl _) hb
  have hlt : X2.heap.size ≤ q3 := K0.out.2.2.2
  have HAP := lv_apply K0.out.1 hbw hup (.inl newz) (.inl fun _ a e => by injection e with e; rw [← e]; exact hlt) (NewA.out (B := X2.heap.size) ⟨fun hn a e => Nat.le_trans K0.out.2.1.size (hy2.p hn a e), fun hn a e => Nat.le_trans K0.out.2.1.size (hy2.c hn a e), fun z hz hn a e => Nat.le_trans K0.out.2.1.size (hy2.s z hz hn a e)⟩ fun k hk => hk.2) (r := 1) (by rw [hup2]; exact may14c) (show (0 : Nat) ≤ 3000 ∧ 1 ≤ 3000 by decide) (show ([(⟨1, ((167772160, 8) : PK), 2, saidA 7 9⟩ : Rt)] : List Rt).length + 1 ≤ 3000000 by decide) (show (0 : Int) ≤ 1 ∧ 1 + ((1 : Nat) : Int) ≤ 900000000 by decide)
  rw [hup2, step14c] at HAP
  unfold UpV.v at HAP
  dsimp only at HAP
  have HAP := Lib.hid HAP
  clear hy1 hy2 hy3 hb hup hup2 hbw hlt K0 HSD
  go_wp2_with fail
  refine (HAP.out).mono ?_
  rintro e X3 ⟨v, L, rfl, ho, hc, hst⟩
  obtain rfl := chg_one hc (by decide) (by decide) ne14c
  obtain ⟨sa3, sc3, rfl⟩ := own_one ho
  have FS := Lib.hid hst
  clear ho hc hst HAP
  have G0 := Lib.hid (And.intro FS.out (Below.refl X3.heap.size X3))
  clear FS
  go_wp2_with fail
  refine (ten14_any 2 _).mono ?_
  rintro e T40 ⟨rfl, hb⟩
  have G1 := Lib.hid (And.intro G0.out.1 (bcall G0.out.2 (Nat.le_refl _) hb))
  clear hb G0
  have hal := (Below.refl T40.heap.size T40).alloc (Nat.le_refl _) (.cells #[.int .i64 2, .int .u32 167772160, .int .i64 8] 60)
  have hnl := nl1 (n := 2) (by unfold I64; decide) (hnew T40 (.cells #[.int .i64 2, .int .u32 167772160, .int .i64 8] 60))
  have K0 := Lib.hid (And.intro G1.out.1 (And.intro (bcall G1.out.2 (Nat.le_refl _) hal) (And.intro hnl (G1.out.2.size))))
  clear hal hnl G1
  have HSD := said14_any 8 (by unfold I64; decide) 9 (by decide) (T40.alloc (.cells #[.int .i64 2, .int .u32 167772160, .int .i64 8] 60))
  unfold AtV.v at HSD
  have HSD := Lib.hid HSD
  go_wp2_with fail
  generalize T40.alloc (.cells #[.int .i64 2, .int .u32 167772160, .int .i64 8] 60) = V4 at *
  generalize T40.heap.size = q4 at *
  refine (HSD.out).mono ?_
  rintro e U4 ⟨y4, rfl, hy1, hy2, hy3, hb⟩
  have hup : UpOk U4 (⟨(⟨none, 0, 0, []⟩ : SlV Nl), ⟨some ⟨q4, 0, none⟩, 1, 1, [(⟨2, 167772160, 8⟩ : Nl)]⟩, y4, false⟩ : UpV) := ⟨nz_ok _, K0.out.2.2.1.keepN hb, hy1⟩
  have hup2 : UpV.up (⟨(⟨none, 0, 0, []⟩ : SlV Nl), ⟨some ⟨q4, 0, none⟩, 1, 1, [(⟨2, 167772160, 8⟩ : Nl)]⟩, y4, false⟩ : UpV) = ⟨[], [(⟨2, 167772160, 8⟩ : Nl)], saidA 8 9, false⟩ := by unfold UpV.up; dsimp only; rw [hy3]
  have hbw := bcall K0.out.2.1 (Nat.le_refl _) hb
  have hlt : X3.heap.size ≤ q4 := K0.out.2.2.2
  have HAP := lv_apply K0.out.1 hbw hup (.inl newz) (.inl fun _ a e => by injection e with e; rw [← e]; exact hlt) (NewA.out (B := X3.heap.size) ⟨fun hn a e => Nat.le_trans K0.out.2.1.size (hy2.p hn a e), fun hn a e => Nat.le_trans K0.out.2.1.size (hy2.c hn a e), fun z hz hn a e => Nat.le_trans K0.out.2.1.size (hy2.s z hz hn a e)⟩ fun k hk => hk.2) (r := 2) (by rw [hup2]; exact may14d) (show (0 : Nat) ≤ 3000 ∧ 1 ≤ 3000 by decide) (show ([] : List Rt).length + 1 ≤ 3000000 by decide) (show (0 : Int) ≤ 1 ∧ 1 + ((1 : Nat) : Int) ≤ 900000000 by decide)
  rw [hup2, step14d] at HAP
  unfold UpV.v at HAP
  dsimp only at HAP
  have HAP := Lib.hid HAP
  clear hy1 hy2 hy3 hb hup hup2 hbw hlt K0 HSD
  go_wp2_with fail
  refine (HAP.out).mono ?_
  rintro e X4 ⟨v, L, rfl, ho, hc, hst⟩
  obtain rfl := chg_one hc (by decide) (by decide) ne14d
  obtain ⟨sa4, sc4, rfl⟩ := own_one ho
  have FS := Lib.hid hst
  clear ho hc hst HAP
  have kf : ∀ W, (Instr.field 60 (.agg #[.int .i64 0, .int .u32 167772160, .int .i64 8]) 1).run Tryz.prog W = .ok (.agg #[.int .u32 167772160, .int .i64 8]) W := fun W => by kernel_rfl
  go_wp2_with fail
  refine (ten14_any 0 _).mono ?_
  rintro e Y1 ⟨rfl, hb⟩
  have F1 := Lib.hid (FS.out.keep hb)
  clear hb FS
  have HRO := lv_routes F1.out (by decide) (k := ((167772160, 8) : PK)) ⟨by decide, by unfold I64; decide⟩
  unfold pfx at HRO
  have HRO := Lib.hid HRO
  go_wp2_with fail
  refine (HRO.out).mono ?_
  rintro e Y2 ⟨s, rfl, hs1, -, -, hst⟩
  rw [rt14] at hs1
  have hsl : s.l.length = 1 := by have := congrArg List.length hs1; rwa [List.length_map] at this
  have hsn : s.n = 1 := hst.now.2.sl.len.trans hsl
  obtain ⟨sa, sn, sc, sl⟩ := s
  dsimp only at hs1 hsl hsn hst ⊢
  subst hsn
  obtain ⟨b0, o0, ea, -⟩ := hst.now.2.sl.row (show 0 < 1 by decide)
  dsimp only at ea
  subst ea
  have FS := Lib.hid (And.intro hst hs1)
  clear hst hs1 hsl HRO F1
  go_wp2_with fail
  refine (ten14_any 0 _).mono ?_
  rintro e Y3 ⟨rfl, hb⟩
  have F1 := Lib.hid (And.intro (FS.out.1.keep hb) FS.out.2)
  clear hb FS
  have HGE := lv_get F1.out.1 (r := 2) (i := 2) (k := ((167772160, 8) : PK)) ⟨by decide, by unfold I64; decide⟩ (by unfold I64; decide) (by unfold I64; decide)
  rw [lk14] at HGE
  unfold AtV.v at HGE
  have HGE := Lib.hid HGE
  go_wp2_with fail
  refine (HGE.out).mono ?_
  rintro e Y4 ⟨y, rfl, hy1, -, -, hst⟩
  have FS := Lib.hid (And.intro hst (And.intro F1.out.2 (show y.at = saidA 8 9 from hy1)))
  clear hst hy1 HGE F1
  go_wp2_with (with_reducible refine halt_store 40 (x := .tmp 12) rfl ?_)
  refine Halted.go ?_
  have hal := (Below.refl Y4.heap.size Y4).alloc (Nat.le_refl _) (.cells #[.int .i64 0, .slice none 0 0, .int .u32 0, .int .i64 0, .int .i64 0, .slice none 0 0] 40)
  refine store_whole rfl 40 _ _ rfl Y4.heap.size #[.int .i64 y.o, .slice y.p.a y.p.n y.p.c, .int .u32 y.nx, .int .i64 y.md, .int .i64 y.pf, .slice y.c.a y.c.n y.c.c] rfl rfl (hnew _ _) rfl (by kernel_rfl) (by simp [Value.oneCell']) ?_
  intro Y5 hwz hsz
  have hzb : Below Y4.heap.size Y4 Y5 := Below.trans hal (hsz.below (Nat.le_refl _))
  have F5 := Lib.hid (And.intro (FS.out.1.addB hzb (Nat.le_refl _) hwz) FS.out.2)
  have HOF := (lv_small F5.out.1).2.2 2 (by unfold I64; decide)
  rw [cn14] at HOF
  have HOF := Lib.hid HOF
  have HFL := lv_flush F5.out.1 (by decide) 2
  rw [step14e] at HFL
  have HFL := Lib.hid HFL
  generalize Y4.heap.size = qy at *
  clear hal hwz hsz hzb FS kf
  go_wp2_with fail
  refine (HOF.out).mono ?_
  rintro e W9 ⟨rfl, hw⟩
  have hw := hw.symm
  subst hw
  go_wp2_with fail
  refine (HFL.out).mono ?_
  rintro e Y6 ⟨v, L, rfl, ho, hc, hst⟩
  obtain rfl := chg_one hc (by decide) (by decide) ne14e
  obtain ⟨sa6, sc6, rfl⟩ := own_one ho
  have FS := Lib.hid (And.intro hst F5.out.2)
  clear ho hc hst HFL HOF F5
  go_wp2_with fail
  refine (rnew_no _ (-1) 2 (by decide)).mono ?_
  rintro e W9 ⟨rfl, hw⟩
  have hw := hw.symm
  subst hw
  have HBA := lv_bad FS.out.1 (x := (⟨⟨none, 0, 0, []⟩, ⟨none, 0, 0, []⟩, atZV, false⟩ : UpV)) ⟨nz_ok _, nz_ok _, atZ_ok _⟩ (r := 16) (show mayR 16 ⟨[], [], atZ, false⟩ = false from may14e)
  unfold UpV.v atZV at HBA
  dsimp only at HBA
  have HBA := Lib.hid HBA
  go_wp2_with fail
  refine (HBA.out).mono ?_
  rintro e Y7 ⟨rfl, hst, -⟩
  have F7 := Lib.hid (And.intro hst FS.out.2)
  have HSM := Lib.hid (lv_small hst)
  have hsl := hst.now.1.1.2.sl
  obtain ⟨b1, o1, eb, -, hat⟩ := hsl.at (i := 0) (show 0 < 1 by decide)
  dsimp only at eb hat
  injection eb with eb
  injection eb with eb1 eb2
  subst eb1
  have hz : sl.getD 0 default = sl.getD 0 default := rfl
  have hzr : (sl.getD 0 default).r = 2 := rt_one FS.out.2.1
  have d0 := hat 0 (by decide)
  simp only [RRt, Nat.add_zero, List.getElem?_cons_zero] at d0
  rw [hzr] at d0
  try rw [← eb2] at d0
  have hby : BxA qy y Y7 := hst.now.2
  have hd7 := (Below.refl Y7.heap.size Y7).drew
  obtain ⟨PP, hst', hPP⟩ : ∃ PP : World → Prop, LvS w b 65000 2 [] 1 PP Y7 ∧ ∀ W, PP W → AtOk W y := ⟨_, hst, fun W h => h.1.2⟩
  have HPP := Lib.hid hPP
  have G0 := Lib.hid (show LiS w b PP b0 o0 qy y Y7.drew from ⟨hst'.keep hd7, (hd7.cell (p := ⟨b0, o0, none⟩) (World.block_lt_of_cell? _ _ d0)).trans d0, hby.keep hd7⟩)
  clear hst hst' hPP hsl hat hz hzr hby HBA FS eb2 HSM d0 hd7
  go_wp2_with fail
  rw [HC14.out]
  refine region_forced (n := 93) (by kernel_rfl) ops14_len ?_
  generalize Y7.drew = V0 at *
  refine any_forced s14a (g := 33) rfl fr14a ?_
  rw [pick14a]
  iterate 13
    rw [pick_cons]
    conv in (List.getD _ _ _) => whnf
    with_reducible refine wpList_want (by kernel_rfl) (fun K hK => ?_)
    have HK := Lib.hid hK
    clear hK
    go_wp2_with fail
    refine HK.out _ _ ?_
    clear HK K
  rw [pick_cons]
  conv in (List.getD _ _ _) => whnf
  with_reducible refine wpList_want (by kernel_rfl) (fun K hK => ?_)
  have HK := Lib.hid hK
  clear hK
  go_wp2_with fail
  refine ((lv_small G0.out.lv).2.1).mono ?_
  rintro e W9 ⟨rfl, hw⟩
  have hw := hw.symm
  subst hw
  go_wp2_with fail
  refine HK.out _ _ ?_
  clear HK K
  iterate 39
    rw [pick_cons]
    conv in (List.getD _ _ _) => whnf
    with_reducible refine wpList_want (by kernel_rfl) (fun K hK => ?_)
    have HK := Lib.hid hK
    clear hK
    go_wp2_with fail
    refine HK.out _ _ ?_
    clear HK K
  rw [pick_cons]
  conv in (List.getD _ _ _) => whnf
  with_reducible refine wpList_want (by kernel_rfl) (fun K hK => ?_)
  have HK := Lib.hid hK
  clear hK
  have f0 := G0.out.c
  go_wp2_with fail
  refine HK.out _ _ ?_
  clear HK K
  clear f0
  iterate 6
    rw [pick_cons]
    conv in (List.getD _ _ _) => whnf
    with_reducible refine wpList_want (by kernel_rfl) (fun K hK => ?_)
    have HK := Lib.hid hK
    clear hK
    go_wp2_with fail
    refine HK.out _ _ ?_
    clear HK K
  rw [pick_nil]
  refine wpList_nil ?_
  simp only [Exit.then]
  have HSD := said14_any 8 (by unfold I64; decide) 9 (by decide) V0
  unfold AtV.v at HSD
  have HSD := Lib.hid HSD
  refine any_pair (g := 31) 60 61 fr14p (by decide) ?_ ?_
  · rw [pick_cons]
    conv in (List.getD _ _ _) => whnf
    with_reducible refine wpList_want (by kernel_rfl) (fun K hK => ?_)
    have HK := Lib.hid hK
    clear hK
    obtain ⟨c0, c1, c2, c3, c4, c5⟩ := G0.out.bx.cells
    go_wp2_with fail
    refine HK.out _ _ ?_
    clear HK K
    clear c0 c1 c2 c3 c4 c5
    rw [pick_cons]
    conv in (List.getD _ _ _) => whnf
    with_reducible refine wpList_want (by kernel_rfl) (fun K hK => ?_)
    have HK := Lib.hid hK
    clear hK
    go_wp2_with fail
    refine (HSD.out).mono ?_
    rintro e Y8 ⟨y8, rfl, hy1, -, hy3, hb⟩
    have G1 := Lib.hid (And.intro (G0.out.keep hb) (And.intro hy1 hy3))
    have HSA := rasame_any (HPP.out _ G1.out.1.lv.now) hy1
    rw [F7.out.2.2, hy3, decide_eq_true rfl] at HSA
    unfold AtV.v at HSA
    have HSA := Lib.hid HSA
    clear hy1 hy3 hb HSD G0
    go_wp2_with fail
    refine HK.out _ _ ?_
    clear HK K
    rw [pick_nil]
    refine wpList_nil ?_
    simp only [Exit.then]
    refine any_forced s14b (g := 0) rfl fr14b ?_
    rw [pick14b]
    rw [pick_cons]
    conv in (List.getD _ _ _) => whnf
    with_reducible refine wpList_want (by kernel_rfl) (fun K hK => ?_)
    have HK := Lib.hid hK
    clear hK
    go_wp2_with fail
    refine (HSA.out).mono ?_
    rintro e Y9 ⟨rfl, hb⟩
    have G2 := Lib.hid (G1.out.1.keep hb)
    clear hb HSA G1
    go_wp2_with fail
    refine HK.out _ _ ?_
    clear HK K
    iterate 12
      rw [pick_cons]
      conv in (List.getD _ _ _) => whnf
      with_reducible refine wpList_want (by kernel_rfl) (fun K hK => ?_)
      have HK := Lib.hid hK
      clear hK
      go_wp2_with fail
      refine HK.out _ _ ?_
      clear HK K
    rw [pick_cons]
    conv in (List.getD _ _ _) => whnf
    with_reducible refine wpList_want (by kernel_rfl) (fun K hK => ?_)
    have HK := Lib.hid hK
    clear hK
    go_wp2_with fail
    refine ((lv_small G2.out.lv).1).mono ?_
    rintro e W9 ⟨rfl, hw⟩
    have hw := hw.symm
    subst hw
    go_wp2_with fail
    refine HK.out _ _ ?_
    clear HK K
    iterate 4
      rw [pick_cons]
      conv in (List.getD _ _ _) => whnf
      with_reducible refine wpList_want (by kernel_rfl) (fun K hK => ?_)
      have HK := Lib.hid hK
      clear hK
      go_wp2_with fail
      refine HK.out _ _ ?_
      clear HK K
    rw [pick_cons]
    conv in (List.getD _ _ _) => whnf
    with_reducible refine wpList_want (by kernel_rfl) (fun K hK => ?_)
    have HK := Lib.hid hK
    clear hK
    go_wp2_with fail
    refine (lv_prefixes G2.out.lv (by decide)).mono ?_
    rintro e Z1 ⟨v, L, rfl, ho, hp, hb, hst⟩
    have hL : L = [] := by
      rw [List.eq_nil_iff_forall_not_mem]
      intro k hk
      obtain ⟨x, hx, -⟩ := (hp.is k).1 hk
      cases hx
    subst hL
    obtain ⟨sa9, sc9, rfl, -, -⟩ := ho.sl0
    have G3 := Lib.hid (G2.out.keep hb)
    clear ho hp hb hst G2
    go_wp2_with fail
    refine HK.out _ _ ?_
    clear HK K
    iterate 12
      rw [pick_cons]
      conv in (List.getD _ _ _) => whnf
      with_reducible refine wpList_want (by kernel_rfl) (fun K hK => ?_)
      have HK := Lib.hid hK
      clear hK
      go_wp2_with fail
      refine HK.out _ _ ?_
      clear HK K
    rw [pick_nil]
    refine wpList_nil ?_
    simp only [Exit.then]
    refine any_done fr14d ?_
    go_wp2_with fail
    go_ret
    exact ⟨rfl, G3.out.lv.bw⟩
  · rw [pick_cons]
    conv in (List.getD _ _ _) => whnf
    with_reducible refine wpList_want (by kernel_rfl) (fun K hK => ?_)
    have HK := Lib.hid hK
    clear hK
    go_wp2_with fail
    refine (HSD.out).mono ?_
    rintro e Y8 ⟨y8, rfl, hy1, -, hy3, hb⟩
    have G1 := Lib.hid (And.intro (G0.out.keep hb) (And.intro hy1 hy3))
    have HSA := rasame_any (HPP.out _ G1.out.1.lv.now) hy1
    rw [F7.out.2.2, hy3, decide_eq_true rfl] at HSA
    unfold AtV.v at HSA
    have HSA := Lib.hid HSA
    clear hy1 hy3 hb HSD G0
    go_wp2_with fail
    refine HK.out _ _ ?_
    clear HK K
    rw [pick_cons]
    conv in (List.getD _ _ _) => whnf
    with_reducible refine wpList_want (by kernel_rfl) (fun K hK => ?_)
    have HK := Lib.hid hK
    clear hK
    obtain ⟨c0, c1, c2, c3, c4, c5⟩ := G1.out.1.bx.cells
    go_wp2_with fail
    refine HK.out _ _ ?_
    clear HK K
    clear c0 c1 c2 c3 c4 c5
    rw [pick_nil]
    refine wpList_nil ?_
    simp only [Exit.then]
    refine any_forced s14b (g := 0) rfl fr14b ?_
    rw [pick14b]
    rw [pick_cons]
    conv in (List.getD _ _ _) => whnf
    with_reducible refine wpList_want (by kernel_rfl) (fun K hK => ?_)
    have HK := Lib.hid hK
    clear hK
    go_wp2_with fail
    refine (HSA.out).mono ?_
    rintro e Y9 ⟨rfl, hb⟩
    have G2 := Lib.hid (G1.out.1.keep hb)
    clear hb HSA G1
    go_wp2_with fail
    refine HK.out _ _ ?_
    clear HK K
    iterate 12
      rw [pick_cons]
      conv in (List.getD _ _ _) => whnf
      with_reducible refine wpList_want (by kernel_rfl) (fun K hK => ?_)
      have HK := Lib.hid hK
      clear hK
      go_wp2_with fail
      refine HK.out _ _ ?_
      clear HK K
    rw [pick_cons]
    conv in (List.getD _ _ _) => whnf
    with_reducible refine wpList_want (by kernel_rfl) (fun K hK => ?_)
    have HK := Lib.hid hK
    clear hK
    go_wp2_with fail
    refine ((lv_small G2.out.lv).1).mono ?_
    rintro e W9 ⟨rfl, hw⟩
    have hw := hw.symm
    subst hw
    go_wp2_with fail
    refine HK.out _ _ ?_
    clear HK K
    iterate 4
      rw [pick_cons]
      conv in (List.getD _ _ _) => whnf
      with_reducible refine wpList_want (by kernel_rfl) (fun K hK => ?_)
      have HK := Lib.hid hK
      clear hK
      go_wp2_with fail
      refine HK.out _ _ ?_
      clear HK K
    rw [pick_cons]
    conv in (List.getD _ _ _) => whnf
    with_reducible refine wpList_want (by kernel_rfl) (fun K hK => ?_)
    have HK := Lib.hid hK
    clear hK
    go_wp2_with fail
    refine (lv_prefixes G2.out.lv (by decide)).mono ?_
    rintro e Z1 ⟨v, L, rfl, ho, hp, hb, hst⟩
    have hL : L = [] := by
      rw [List.eq_nil_iff_forall_not_mem]
      intro k hk
      obtain ⟨x, hx, -⟩ := (hp.is k).1 hk
      cases hx
    subst hL
    obtain ⟨sa9, sc9, rfl, -, -⟩ := ho.sl0
    have G3 := Lib.hid (G2.out.keep hb)
    clear ho hp hb hst G2
    go_wp2_with fail
    refine HK.out _ _ ?_
    clear HK K
    iterate 12
      rw [pick_cons]
      conv in (List.getD _ _ _) => whnf
      with_reducible refine wpList_want (by kernel_rfl) (fun K hK => ?_)
      have HK := Lib.hid hK
      clear hK
      go_wp2_with fail
      refine HK.out _ _ ?_
      clear HK K
    rw [pick_nil]
    refine wpList_nil ?_
    simp only [Exit.then]
    refine any_done fr14d ?_
    go_wp2_with fail
    go_ret
    exact ⟨rfl, G3.out.lv.bw⟩
end Go.Proofs.YtadoflcomienoaaGreat
/- Updates that are too large. -/
namespace Go.Proofs.YtadoflcomienoaaGreat
open Go.RowKit

def largeU (u : Up) : Bool := decide (1100 < u.gone.length) || (decide (1100 < u.routes.length) || largeA u.a)
set_option maxRecDepth 100000 in
set_option maxHeartbeats 2000000 in
theorem largeU_any {w : World} {x : UpV} (hx : UpOk w x) : Calls Tryz.prog 24 #[x.v] w fun e w' => e = .returned (.bool (largeU x.up)) ∧ Below w.heap.size w w' := by
  have hb0 := (Below.refl w.heap.size w).alloc (Nat.le_refl _) (.cells #[.slice x.g.a x.g.n x.g.c, .slice x.r.a x.r.n x.r.c, .int .i64 x.a.o, .slice x.a.p.a x.a.p.n x.a.p.c, .int .u32 x.a.nx, .int .i64 x.a.md, .int .i64 x.a.pf, .slice x.a.c.a x.a.c.n x.a.c.c, .bool x.soft] 42)
  have hX : BxU w.heap.size x (w.alloc (.cells #[.slice x.g.a x.g.n x.g.c, .slice x.r.a x.r.n x.r.c, .int .i64 x.a.o, .slice x.a.p.a x.a.p.n x.a.p.c, .int .u32 x.a.nx, .int .i64 x.a.md, .int .i64 x.a.pf, .slice x.a.c.a x.a.c.n x.a.c.c, .bool x.soft] 42)) := hnew _ _
  have HA := large_any (hx.a.keep hb0)
  unfold AtV.v at HA
  have HA := Lib.hid HA
  obtain ⟨v, hv⟩ : ∃ v, largeU x.up = v := ⟨_, rfl⟩
  rw [hv]
  have hv2 : v = (decide (1100 < x.g.n) || (decide (1100 < x.r.n) || largeA x.a.at)) := by
    rw [← hv]
    unfold largeU UpV.up
    dsimp only
    rw [← hx.g.sl.len, ← hx.r.sl.len]
  have HV := Lib.hid hv2
  have F0 := Lib.hid (And.intro hb0 True.intro)
  obtain ⟨c0, c1, c2, c3, c4, c5, c6, c7, c8⟩ := hX.cells
  clear hv hv2 hb0 hX hx
  unfold UpV.v
  obtain ⟨w1, hw1⟩ : ∃ w1, w.alloc (.cells #[.slice x.g.a x.g.n x.g.c, .slice x.r.a x.r.n x.r.c, .int .i64 x.a.o, .slice x.a.p.a x.a.p.n x.a.p.c, .int .u32 x.a.nx, .int .i64 x.a.md, .int .i64 x.a.pf, .slice x.a.c.a x.a.c.n x.a.c.c, .bool x.soft] 42) = w1 := ⟨_, rfl⟩
  rw [hw1] at F0 HA c0 c1 c2 c3 c4 c5 c6 c7 c8
  by_cases h1 : 1100 < x.g.n
  · have e1 : ((1100 : Int) < (x.g.n : Int)) = True := by simp; omega
    rw [decide_eq_true h1] at HV
    clear h1
    go_enter Tryz.func24, Tryz.ntmps24
    go_wp2_with fail
    go_ret
    exact ⟨ret_bool (by rw [HV.out]; rfl), F0.out.1⟩
  · have e1 : ((1100 : Int) < (x.g.n : Int)) = False := by simp; omega
    rw [decide_eq_false h1, Bool.false_or] at HV
    clear h1
    by_cases h1 : 1100 < x.r.n
    · have e2 : ((1100 : Int) < (x.r.n : Int)) = True := by simp; omega
      rw [decide_eq_true h1] at HV
      clear h1
      go_enter Tryz.func24, Tryz.ntmps24
      go_wp2_with fail
      go_ret
      exact ⟨ret_bool (by rw [HV.out]; rfl), F0.out.1⟩
    · have e2 : ((1100 : Int) < (x.r.n : Int)) = False := by simp; omega
      rw [decide_eq_false h1, Bool.false_or] at HV
      clear h1
      go_enter Tryz.func24, Tryz.ntmps24
      go_wp2_with fail
      refine (HA.out).mono ?_
      rintro e w5 ⟨rfl, hb⟩
      have F1 := Lib.hid (bcall F0.out.1 (Nat.le_refl _) hb)
      clear hb HA F0
      go_wp2_with fail
      go_ret
      exact ⟨ret_bool (by rw [HV.out]), F1.out⟩
theorem large_small {u : Up} (h : largeU u = false) : u.gone.length ≤ 1100 ∧ u.routes.length ≤ 1100 := by
  unfold largeU at h
  rw [Bool.or_eq_false_iff, Bool.or_eq_false_iff, decide_eq_false_iff_not, decide_eq_false_iff_not] at h
  omega
end Go.Proofs.YtadoflcomienoaaGreat
