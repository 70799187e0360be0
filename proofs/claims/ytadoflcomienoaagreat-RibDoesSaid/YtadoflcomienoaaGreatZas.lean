/- Which prefixes an update touches, with their routes ahead of it. -/
import Derived.Test.YtadoflcomienoaaGreatZaq
import Derived.Test.YtadoflcomienoaaGreatZar
import Derived.Test.YtadoflcomienoaaGreatZak
import Derived.Test.YtadoflcomienoaaGreatZag
import Derived.Test.YtadoflcomienoaaGreatZaf
import Derived.Test.YtadoflcomienoaaGreatZal
import Derived.Test.YtadoflcomienoaaGreatZai
namespace Go.Proofs.YtadoflcomienoaaGreat
open Go.RowKit
open Go.ChangeMaps (setBlock)

structure TwV where
  k : PK
  s : SlV RtV
deriving Inhabited
def TwV.v (x : TwV) : Value := .slice x.s.a x.s.n x.s.c
/-- the map of these -/
def TwAt (w : World) (bm : Nat) (L : List TwV) : Prop := ∃ clk es, MR.MapAt PN w bm es clk ∧ Kl.Lay TwV.k TwV.v es L
theorem TwAt.on {w w' : World} {bm : Nat} {L : List TwV} (h : TwAt w bm L) (e : w'.heap[bm]? = w.heap[bm]?) : TwAt w' bm L := by
  obtain ⟨clk, es, h1, h2⟩ := h
  exact ⟨clk, es, h1.blk_iff PN e, h2⟩
theorem TwAt.lt {w : World} {bm : Nat} {L : List TwV} (h : TwAt w bm L) : bm < w.heap.size := by
  obtain ⟨clk, es, h1, h2⟩ := h
  exact lt_of_blk h1.blk
theorem TwAt.keep {w w' : World} {bm : Nat} {L : List TwV} (h : TwAt w bm L) (hb : Below w.heap.size w w') : TwAt w' bm L := h.on (hb.block _ h.lt)
theorem TwAt.nd {w : World} {bm : Nat} {L : List TwV} (h : TwAt w bm L) : (L.map TwV.k).Nodup := by
  obtain ⟨clk, es, h1, h2⟩ := h
  exact h2.nd
def hasT (L : List TwV) (k : PK) : Bool := (Kl.look TwV.k L k).isSome
def getT (L : List TwV) (k : PK) : Value := ((Kl.look TwV.k L k).map TwV.v).getD (.slice none 0 0)
theorem TwAt.lookup {w : World} {bm : Nat} {L : List TwV} (H : TwAt w bm L) {k : PK} (hk : PN.ok k) (W : World) (hW : W.heap[bm]? = w.heap[bm]?) :
    (Instr.lookup 136 (.map (some bm)) (.agg #[.int .u32 (k.1 : Int), .int .i64 k.2]) true).run Tryz.prog W = .ok (.tuple #[getT L k, .bool (hasT L k)]) W := by
  obtain ⟨clk, es, k2, k3⟩ := H
  have h := MR.run_lookup PN (k2.blk_iff PN hW) hk Tryz.underlying136 (z := .slice none 0 0) (fun w => by kernel_rfl) true
  rw [k3.get, if_pos rfl] at h
  have e2 : ((Kl.look TwV.k L k).map TwV.v).isSome = hasT L k := by unfold hasT; cases Kl.look TwV.k L k <;> rfl
  rw [e2] at h
  exact h
theorem TwAt.put {w : World} {bm : Nat} {L L' : List TwV} (H : TwAt w bm L) {x : TwV} (hk : PN.ok x.k) (hL : (L'.map TwV.k).Nodup) (hl : ∀ k, Kl.look TwV.k L' k = if k = x.k then some x else Kl.look TwV.k L k) :
    ∃ O, (Instr.mapUpdate 136 (.map (some bm)) (.agg #[.int .u32 (x.k.1 : Int), .int .i64 x.k.2]) (.slice x.s.a x.s.n x.s.c)).run Tryz.prog w = .ok () (setBlock w bm O) ∧ TwAt (setBlock w bm O) bm L' := by
  obtain ⟨clk, es, k2, k3⟩ := H
  have hu := MR.run_update PN k2 hk Tryz.underlying136 (TwV.v x)
  exact ⟨_, hu.1, ⟨_, _, hu.2, k3.put hL hl hu.2.nodup hu.2.bnodup⟩⟩
theorem TwAt.len {w : World} {bm : Nat} {L : List TwV} (H : TwAt w bm L) (W : World) (hW : W.heap[bm]? = w.heap[bm]?) (ty : TypeId) : (Builtin.len_ #[136] ty #[.map (some bm)]).run Tryz.prog W = .ok (.int .i64 L.length) W := by
  obtain ⟨clk, es, k2, k3⟩ := H
  have := MR.run_len PN (k2.blk_iff PN hW) Tryz.underlying136 ty
  rw [k3.len] at this
  exact this

theorem RtsOk.hold {w : World} {B : Nat} {s : SlV RtV} {F : Nat → Prop} (h : RtsOk w B s) (hF : ∀ k, F k → k < B) : HoldF F w fun W => SlOk RRt RtOk W s := fun w' hs he =>
  h.sl.same (fun hn a e hl => he _ hl fun hf => by have h1 := h.new hn a e; have h2 := hF _ hf; omega) fun y hy hok => ⟨hok.k, (hok.a.hold ((h.newA y hy).out hF)) w' hs he⟩
theorem RibAt.outX {w w' : World} {R : Rb} {X : Nat → Prop} {n : Nat} {asn room ref : Int} {G : List RtV} (H : RibAt w R X n asn room ref G) {bm : Nat} (hb : But w w' [bm]) (hX : X bm) (hF : ¬ R.F bm) : RibAt w' R X n asn room ref G := by
  have hs : ∀ k, R.F k → w'.heap[k]? = w.heap[k]? := fun k hk => hb.block k (H.lt hk) (by rw [List.mem_singleton]; exact fun e => hF (e ▸ hk))
  refine ⟨(hs _ (.inl rfl)).trans H.blk, H.tr.keep fun k hk => hs k (.inr (.inr (.inl hk))), H.rf, fun a d x h => ?_, H.all, H.inj, H.of.on (hs _ (.inr (.inl rfl))), H.ofne, H.okx, H.nd, fun x hx => ?_, H.sm⟩
  · obtain ⟨m, rfl, h1, h2⟩ := H.mp a d x h
    exact ⟨m, rfl, h1.on (hs m (.inr (.inr (.inr ⟨a, d, h⟩)))), h2⟩
  · exact (H.far x hx).turn hb.size (fun k hk hn => hb.block k hk (by rw [List.mem_singleton]; rintro rfl; exact hn (.inr hX))) fun k hk => .inl hk
/-- the prefixes that were touched: what they were; others are as they were -/
structure TwOk (w : World) (R : Rb) (X : Nat → Prop) (bm : Nat) (S0 S : List Rt) (T : List TwV) : Prop where
  at' : TwAt w bm T
  hold : ∀ t ∈ T, HoldF (R.FX X) w fun W => SlOk RRt RtOk W t.s
  was : ∀ t ∈ T, t.s.l.map RtV.rt = routesR S0 t.k
  key : ∀ t ∈ T, t.k.1 < 4294967296 ∧ I64 t.k.2
  rest : ∀ k, (∀ t ∈ T, t.k ≠ k) → routesR S k = routesR S0 k
theorem TwOk.moved {w w' : World} {R R' : Rb} {X : Nat → Prop} {bm : Nat} {S0 S S' : List Rt} {T : List TwV} (h : TwOk w R X bm S0 S T) (hmv : Moved w w' R.F R'.F) (hbm : ¬ R.F bm) {k : PK} (hk : ∃ t ∈ T, t.k = k) (hS : ∀ k', k' ≠ k → routesR S' k' = routesR S k') : TwOk w' R' X bm S0 S' T :=
  ⟨h.at'.on (hmv.same _ h.at'.lt hbm), fun t ht => (h.hold t ht).moved (hmv.union X), h.was, h.key, fun k' hk' => by
    obtain ⟨t, ht, rfl⟩ := hk
    rw [hS k' (Ne.symm (hk' t ht))]
    exact h.rest k' hk'⟩
set_option maxRecDepth 100000 in
set_option maxHeartbeats 8000000 in
theorem touch_any {w : World} {R : Rb} {X : Nat → Prop} {n : Nat} {asn room ref : Int} {G : List RtV} (H : RibAt w R X n asn room ref G) {bm : Nat} {S0 : List Rt} {T : List TwV} (HT : TwOk w R X bm S0 (G.map RtV.rt) T) (hXb : X bm) (hF : ¬ R.F bm) (hX : ∀ k, X k → k < w.heap.size) {k : PK} (hk : k.1 < 4294967296 ∧ I64 k.2) (hG : G.length ≤ 4000000) : Calls Tryz.prog 80 #[.pointer (some ⟨R.b, 0, none⟩), .map (some bm), pfx k.1 k.2] w fun e w' => e = .returned (.tuple #[]) ∧ ∃ T', TwOk w' R X bm S0 (G.map RtV.rt) T' ∧ (∃ t ∈ T', t.k = k) ∧ (∀ t ∈ T', t ∈ T ∨ t.k = k) ∧ T'.length ≤ T.length + 1 ∧ RibAt w' R X n asn room ref G ∧ But w w' [bm] := by
  have hal := (Below.refl w.heap.size w).alloc (Nat.le_refl _) (.cells #[.int .u32 (k.1 : Int), .int .i64 k.2] 58)
  have hpk : PN.ok k := ⟨wfU ⟨by omega, by omega⟩, wfI hk.2⟩
  have hp : (w.alloc (.cells #[.int .u32 (k.1 : Int), .int .i64 k.2] 58)).heap[w.heap.size]? = some (.cells #[.int .u32 (k.1 : Int), .int .i64 k.2] 58) := hnew _ _
  have hlu := (HT.at'.keep hal).lookup hpk (w.alloc (.cells #[.int .u32 (k.1 : Int), .int .i64 k.2] 58)) rfl
  have HA := Lib.hid (And.intro H (And.intro HT (And.intro hk (And.intro hG (And.intro hpk (And.intro hXb (And.intro hF hX)))))))
  have F1 := Lib.hid (And.intro hal hp)
  have c0 := cell_of (o := 0) hp rfl
  have c1 := cell_of (o := 1) hp rfl
  obtain ⟨gt, hgt⟩ : ∃ g, getT T k = g := ⟨_, rfl⟩
  rw [hgt] at hlu
  unfold pfx
  clear H HT hk hG hal hp hXb hF hX hpk hgt
  cases hh : hasT T k with
  | true =>
    rw [hh] at hlu
    have HH := Lib.hid hh
    clear hh
    go_enter Tryz.func80, Tryz.ntmps80
    go_wp2_with fail
    (try simp only [Exit.inBlock, Exit.then])
    first
      | refine bodyPost_ret (results_none rfl _ _ _) rfl ?_
      | refine bodyPost_end (results_none rfl _ _ _) rfl ?_
    have hb := F1.out.1
    refine ⟨rfl, T, ⟨HA.out.2.1.at'.keep hb, fun t ht => (HA.out.2.1.hold t ht).below hb, HA.out.2.1.was, HA.out.2.1.key, HA.out.2.1.rest⟩, ?_, fun t ht => .inl ht, Nat.le_succ _, HA.out.1.below hb, But.of_below hb _⟩
    have h1 := HH.out
    unfold hasT at h1
    cases hl : Kl.look TwV.k T k with
    | none => rw [hl] at h1; cases h1
    | some t => obtain ⟨h2, h3⟩ := Kl.look_mem hl; exact ⟨t, h2, h3⟩
  | false =>
    rw [hh] at hlu
    have hno : ∀ t ∈ T, t.k ≠ k := fun t ht => by
      unfold hasT at hh
      cases hl : Kl.look TwV.k T k with
      | none => exact Kl.look_none hl ht
      | some t => rw [hl] at hh; cases hh
    have HN := Lib.hid hno
    clear hh hno
    go_enter Tryz.func80, Tryz.ntmps80
    go_wp2_with fail
    refine wp_region_T 5 (fun W => W.heap[w.heap.size]? = some (.cells #[.int .u32 (k.1 : Int), .int .i64 k.2] 58)) (by kernel_rfl) ?_
    have hd := (Below.refl (w.alloc (.cells #[.int .u32 (k.1 : Int), .int .i64 k.2] 58)).heap.size (w.alloc (.cells #[.int .u32 (k.1 : Int), .int .i64 k.2] 58))).drew
    have F2 := Lib.hid (And.intro (bcall F1.out.1 (Nat.le_refl _) hd) (show (w.alloc (.cells #[.int .u32 (k.1 : Int), .int .i64 k.2] 58)).drew.heap[w.heap.size]? = some (.cells #[.int .u32 (k.1 : Int), .int .i64 k.2] 58) from F1.out.2))
    have HR := routes_any (HA.out.1.below F2.out.1) HA.out.2.2.1 HA.out.2.2.2.1
    unfold pfx at HR
    have HR := Lib.hid HR
    clear hd c0 c1 F1 hlu
    generalize (w.alloc (.cells #[.int .u32 (k.1 : Int), .int .i64 k.2] 58)).drew = V at *
    refine T_reads [0, 1, 2, 3] (g := 2) rfl (by kernel_rfl) F2.out.2 (fun _ _ d _ _ h => by cases d <;> exact h) ?_
    simp only [pick, List.getD_cons_zero, List.getD_cons_succ]
    iterate 2
      ((with_reducible refine wpRead_step (fun K hK => ?_)); go_simp; first | ((with_reducible refine hK _ ?_); clear hK K) | (apply Exists.intro; (with_reducible refine ⟨fun w' hw' => ?_, hK _ ?_⟩); (first | exact rfl | exact ⟨rfl, rfl⟩); clear hK K))
      with_reducible refine wpRead_yes ?_ ?_
      rotate_left
      rfl
      intro K hK
      refine read_load 58 _ rfl w.heap.size 0 #[.int .u32 (k.1 : Int), .int .i64 k.2] rfl (fun w' hw' => rangeAt_block hw' 0 _ rfl) Tryz.underlying58 rfl (by kernel_rfl) (hK _ ?_)
      clear hK K
    with_reducible refine wpRead_nil ?_
    refine T_one 4 (by kernel_rfl) ?_
    simp only [pick, List.getD_cons_zero, List.getD_cons_succ]
    go_wp2_with fail
    refine (HR.out).mono ?_
    rintro e W5 ⟨s, rfl, hs1, hs2, hb5⟩
    have hb05 := bcall F2.out.1 (Nat.le_refl _) hb5
    have hta := HA.out.2.1.at'.keep hb05
    have hnd := hta.nd
    have hlk : Kl.look TwV.k T k = none := Kl.look_no HN.out
    obtain ⟨O, hput, hpn⟩ := hta.put (L' := T ++ [⟨k, s⟩]) (x := (⟨k, s⟩ : TwV)) HA.out.2.2.2.2.1 (by
      rw [List.map_append, List.nodup_append]
      refine ⟨hnd, by simp, fun a ha b hb => ?_⟩
      simp at hb
      subst hb
      obtain ⟨z, hz, rfl⟩ := List.mem_map.1 ha
      exact HN.out z hz) (fun k' => by
      rw [Kl.look_append]
      by_cases e : k' = k
      · subst e
        rw [hlk, if_pos rfl]
        unfold Kl.look
        simp
      · rw [if_neg e]
        have h1 : Kl.look TwV.k [(⟨k, s⟩ : TwV)] k' = none := Kl.look_no fun y hy => by
          rw [List.mem_singleton] at hy
          rw [hy]
          exact Ne.symm e
        rw [h1]
        cases Kl.look TwV.k T k' <;> rfl)
    dsimp only at hput
    have F5 := Lib.hid (And.intro hb05 (And.intro (show W5.heap[w.heap.size]? = some (.cells #[.int .u32 (k.1 : Int), .int .i64 k.2] 58) from (hb5.block _ (lt_of_blk F2.out.2)).trans F2.out.2) (And.intro hs1 (And.intro hs2 (And.intro hpn F2.out.1.size)))))
    have hsw : V.heap.size ≤ W5.heap.size := hb5.size
    have HSW := Lib.hid hsw
    clear hs1 hs2 hb5 hb05 hta hnd hlk hpn HR hsw
    go_wp2_with fail
    try refine ⟨fun _ => F5.out.2.1, ?_⟩
    refine T_one 5 (by kernel_rfl) ?_
    simp only [pick, List.getD_cons_zero, List.getD_cons_succ]
    go_wp2_with fail
    try refine ⟨fun h => absurd rfl h, ?_⟩
    refine T_done (by kernel_rfl) ?_ _
    clear hput
    go_wp2_with fail
    go_end0
    have hbt := But.of_below F5.out.1 [bm]
    have hbt2 : But w (setBlock W5 bm O) [bm] := hbt.setBlock (b := bm) (.inr (by simp)) O
    have hRX : ∀ k, Rb.FX R X k → k < w.heap.size := fun k hk => hk.elim (fun h => HA.out.1.lt h) (fun h => HA.out.2.2.2.2.2.2.2 k h)
    have hsb := setBlock_setB (w := W5) (b := bm) (o := O)
    refine ⟨rfl, T ++ [⟨k, s⟩], ⟨F5.out.2.2.2.2.1, fun t ht => ?_, fun t ht => ?_, fun t ht => ?_, fun k' hk' => ?_⟩, ⟨⟨k, s⟩, by simp, rfl⟩, (fun t ht => (List.mem_append.1 ht).imp_right fun h => by rw [List.mem_singleton] at h; rw [h]), by simp, HA.out.1.outX hbt2 HA.out.2.2.2.2.2.1 HA.out.2.2.2.2.2.2.1, hbt2⟩
    · rcases List.mem_append.1 ht with ht | ht
      · exact (HA.out.2.1.hold t ht).turn hbt2.size (fun k hk hn => hbt2.block k hk (by rw [List.mem_singleton]; rintro rfl; exact hn (.inr HA.out.2.2.2.2.2.1))) fun k hk => .inl hk
      · rw [List.mem_singleton] at ht
        subst ht
        refine HoldF.turn (RtsOk.hold F5.out.2.2.1 (F := R.FX X) fun k hk => Nat.lt_of_lt_of_le (hRX k hk) F5.out.2.2.2.2.2) (by rw [hsb.size]; exact Nat.le_refl _) (fun k _ hn => hsb.other (by rintro rfl; exact hn (.inr HA.out.2.2.2.2.2.1))) fun k hk => .inl hk
    · rcases List.mem_append.1 ht with ht | ht
      · exact HA.out.2.1.was t ht
      · rw [List.mem_singleton] at ht
        subst ht
        exact F5.out.2.2.2.1.trans (HA.out.2.1.rest k HN.out)
    · rcases List.mem_append.1 ht with ht | ht
      · exact HA.out.2.1.key t ht
      · rw [List.mem_singleton] at ht
        subst ht
        exact HA.out.2.2.1
    · exact HA.out.2.1.rest k' fun t ht => hk' t (List.mem_append_left _ ht)
end Go.Proofs.YtadoflcomienoaaGreat
/- Which routes are the same. -/
namespace Go.Proofs.YtadoflcomienoaaGreat
open Go.RowKit

def BxR (q : Nat) (x : RtV) (W : World) : Prop := W.heap[q]? = some (.cells #[.int .i64 x.r, .int .u32 (x.k.1 : Int), .int .i64 x.k.2, .int .i64 x.i, .int .i64 x.a.o, .slice x.a.p.a x.a.p.n x.a.p.c, .int .u32 x.a.nx, .int .i64 x.a.md, .int .i64 x.a.pf, .slice x.a.c.a x.a.c.n x.a.c.c] 93)
theorem BxR.keep {q : Nat} {x : RtV} {W W' : World} (h : BxR q x W) (hb : Below W.heap.size W W') : BxR q x W' := (hb.block _ (lt_of_blk h)).trans h
theorem rt_eq {x y : RtV} : decide (x.rt = y.rt) = ((x.r == y.r) && (((x.k.1 : Int) == (y.k.1 : Int)) && ((x.k.2 == y.k.2) && ((x.i == y.i) && decide (x.a.at = y.a.at))))) := by
  rw [Bool.eq_iff_iff, decide_eq_true_eq]
  simp only [Bool.and_eq_true, beq_iff_eq, decide_eq_true_eq]
  unfold RtV.rt
  rw [Rt.mk.injEq]
  constructor
  · rintro ⟨h1, h2, h3, h4⟩; exact ⟨h1, by rw [h2], by rw [h2], h3, h4⟩
  · rintro ⟨h1, h2, h3, h4, h5⟩; exact ⟨h1, Prod.ext (by omega) h3, h4, h5⟩
set_option maxRecDepth 100000 in
set_option maxHeartbeats 8000000 in
theorem same14_any {w : World} {x y : RtV} (hx : AtOk w x.a) (hy : AtOk w y.a) : Calls Tryz.prog 129 #[.agg #[.int .i64 x.r, .int .u32 (x.k.1 : Int), .int .i64 x.k.2, .int .i64 x.i, .int .i64 x.a.o, .slice x.a.p.a x.a.p.n x.a.p.c, .int .u32 x.a.nx, .int .i64 x.a.md, .int .i64 x.a.pf, .slice x.a.c.a x.a.c.n x.a.c.c], .agg #[.int .i64 y.r, .int .u32 (y.k.1 : Int), .int .i64 y.k.2, .int .i64 y.i, .int .i64 y.a.o, .slice y.a.p.a y.a.p.n y.a.p.c, .int .u32 y.a.nx, .int .i64 y.a.md, .int .i64 y.a.pf, .slice y.a.c.a y.a.c.n y.a.c.c]] w fun e w' => e = .returned (.bool (decide (x.rt = y.rt))) ∧ Below w.heap.size w w' := by
  have hal := ((Below.refl w.heap.size w).alloc (Nat.le_refl _) (.cells #[.int .i64 x.r, .int .u32 (x.k.1 : Int), .int .i64 x.k.2, .int .i64 x.i, .int .i64 x.a.o, .slice x.a.p.a x.a.p.n x.a.p.c, .int .u32 x.a.nx, .int .i64 x.a.md, .int .i64 x.a.pf, .slice x.a.c.a x.a.c.n x.a.c.c] 93)).alloc (by simp) (.cells #[.int .i64 y.r, .int .u32 (y.k.1 : Int), .int .i64 y.k.2, .int .i64 y.i, .int .i64 y.a.o, .slice y.a.p.a y.a.p.n y.a.p.c, .int .u32 y.a.nx, .int .i64 y.a.md, .int .i64 y.a.pf, .slice y.a.c.a y.a.c.n y.a.c.c] 93)
  have hX : BxR w.heap.size x ((w.alloc (.cells #[.int .i64 x.r, .int .u32 (x.k.1 : Int), .int .i64 x.k.2, .int .i64 x.i, .int .i64 x.a.o, .slice x.a.p.a x.a.p.n x.a.p.c, .int .u32 x.a.nx, .int .i64 x.a.md, .int .i64 x.a.pf, .slice x.a.c.a x.a.c.n x.a.c.c] 93)).alloc (.cells #[.int .i64 y.r, .int .u32 (y.k.1 : Int), .int .i64 y.k.2, .int .i64 y.i, .int .i64 y.a.o, .slice y.a.p.a y.a.p.n y.a.p.c, .int .u32 y.a.nx, .int .i64 y.a.md, .int .i64 y.a.pf, .slice y.a.c.a y.a.c.n y.a.c.c] 93)) := hold (hnew _ _)
  have hY : BxR (w.heap.size + 1) y ((w.alloc (.cells #[.int .i64 x.r, .int .u32 (x.k.1 : Int), .int .i64 x.k.2, .int .i64 x.i, .int .i64 x.a.o, .slice x.a.p.a x.a.p.n x.a.p.c, .int .u32 x.a.nx, .int .i64 x.a.md, .int .i64 x.a.pf, .slice x.a.c.a x.a.c.n x.a.c.c] 93)).alloc (.cells #[.int .i64 y.r, .int .u32 (y.k.1 : Int), .int .i64 y.k.2, .int .i64 y.i, .int .i64 y.a.o, .slice y.a.p.a y.a.p.n y.a.p.c, .int .u32 y.a.nx, .int .i64 y.a.md, .int .i64 y.a.pf, .slice y.a.c.a y.a.c.n y.a.c.c] 93)) := hnewAt (by simp)
  have HC := asame_any (hx.keep hal) (hy.keep hal)
  unfold AtV.v at HC
  have HC := Lib.hid HC
  have F := Lib.hid hal
  have c0 := cell_of (o := 0) hX rfl
  have c1 := cell_of (o := 1) hX rfl
  have c2 := cell_of (o := 2) hX rfl
  have c3 := cell_of (o := 3) hX rfl
  have c4 := cell_of (o := 4) hX rfl
  have c5 := cell_of (o := 5) hX rfl
  have c6 := cell_of (o := 6) hX rfl
  have c7 := cell_of (o := 7) hX rfl
  have c8 := cell_of (o := 8) hX rfl
  have c9 := cell_of (o := 9) hX rfl
  have d0 := cell_of (o := 0) hY rfl
  have d1 := cell_of (o := 1) hY rfl
  have d2 := cell_of (o := 2) hY rfl
  have d3 := cell_of (o := 3) hY rfl
  have d4 := cell_of (o := 4) hY rfl
  have d5 := cell_of (o := 5) hY rfl
  have d6 := cell_of (o := 6) hY rfl
  have d7 := cell_of (o := 7) hY rfl
  have d8 := cell_of (o := 8) hY rfl
  have d9 := cell_of (o := 9) hY rfl
  obtain ⟨v, hv⟩ : ∃ v, decide (x.rt = y.rt) = v := ⟨_, rfl⟩
  rw [hv]
  rw [rt_eq] at hv
  obtain ⟨b1, e1⟩ : ∃ b, (x.r == y.r) = b := ⟨_, rfl⟩
  obtain ⟨b2, e2⟩ : ∃ b, ((x.k.1 : Int) == (y.k.1 : Int)) = b := ⟨_, rfl⟩
  obtain ⟨b3, e3⟩ : ∃ b, (x.k.2 == y.k.2) = b := ⟨_, rfl⟩
  obtain ⟨b4, e4⟩ : ∃ b, (x.i == y.i) = b := ⟨_, rfl⟩
  obtain ⟨b5, hb5⟩ : ∃ b, decide (x.a.at = y.a.at) = b := ⟨_, rfl⟩
  rw [e1, e2, e3, e4, hb5] at hv
  rw [hb5] at HC
  have HV := Lib.hid hv
  have hcase : b1 = false ∨ (b1 = true ∧ b2 = false) ∨ (b1 = true ∧ b2 = true ∧ b3 = false) ∨ (b1 = true ∧ b2 = true ∧ b3 = true ∧ b4 = false) ∨ (b1 = true ∧ b2 = true ∧ b3 = true ∧ b4 = true) := by
    cases b1 <;> cases b2 <;> cases b3 <;> cases b4 <;> simp
  clear hv hb5 hal hX hY hx hy
  rcases hcase with rfl | ⟨rfl, rfl⟩ | ⟨rfl, rfl, rfl⟩ | ⟨rfl, rfl, rfl, rfl⟩ | ⟨rfl, rfl, rfl, rfl⟩
  rotate_right 1
  · go_enter Tryz.func129, Tryz.ntmps129
    go_wp2_with fail
    refine (HC.out).mono ?_
    rintro e w1 ⟨rfl, hb⟩
    have F1 := Lib.hid (bcall F.out (Nat.le_refl _) hb)
    clear hb
    go_wp2_with fail
    go_ret
    exact ⟨ret_bool (by rw [← HV.out]; simp), F1.out⟩
  all_goals
    go_enter Tryz.func129, Tryz.ntmps129
    go_wp2_with fail
    go_ret
    exact ⟨ret_bool (by rw [← HV.out]; simp), F.out⟩
theorem getD_map_rt {L : List RtV} {i : Nat} (h : i < L.length) : (L.map RtV.rt).getD i default = (L.getD i default).rt := by
  simp [List.getD_eq_getElem?_getD, List.getElem?_eq_getElem h]
set_option maxRecDepth 100000 in
set_option maxHeartbeats 8000000 in
theorem eqf_any {w : World} {oa ob : Option Addr} {n c m d : Nat} {L M : List RtV} (h : SlOk RRt RtOk w ⟨oa, n, c, L⟩) (k : SlOk RRt RtOk w ⟨ob, m, d, M⟩) : Calls Tryz.prog 128 #[.slice oa n c, .slice ob m d, .func (.func 129) #[] #[]] w fun e w' => e = .returned (.bool (decide (L.map RtV.rt = M.map RtV.rt))) ∧ Below w.heap.size w w' := by
  by_cases hnm : n = m
  · subst hnm
    have HL := Lib.hid (show n = L.length from h.sl.len)
    have HM := Lib.hid (show n = M.length from k.sl.len)
    have hmax : n ≤ maxLen := h.sl.max
    have F := Lib.hid (And.intro h k)
    obtain ⟨v, hv⟩ : ∃ v, decide (L.map RtV.rt = M.map RtV.rt) = v := ⟨_, rfl⟩
    rw [hv]
    have HV := Lib.hid hv
    have e0 : ((n : Int) == (n : Int)) = true := by simp
    clear h k hv
    go_enter Tryz.func128, Tryz.ntmps128
    go_wp2_with fail
    go_loopw [17] (fun iv wr => ∃ i : Nat, i ≤ n ∧ iv = .int .i64 i ∧ (∀ j, j < i → (L.map RtV.rt).getD j default = (M.map RtV.rt).getD j default) ∧ Below w.heap.size w wr) (fun iv _ => n - (intOf iv).toNat)
    case atStart => exact ⟨0, Nat.zero_le _, rfl, fun j hj => absurd hj (Nat.not_lt_zero _), Below.refl _ _⟩
    case round =>
      obtain ⟨i, hi, rfl, hall, hb⟩ := hrel
      obtain ⟨w2, rfl⟩ : ∃ w2 : World, w2 = wr := ⟨_, rfl⟩
      by_cases hlt : i < n
      · have hil : ((i : Int) < (n : Int)) = True := by simp; omega
        have hi0 : ((0 : Int) ≤ (i : Int)) = True := by simp
        have hw3 := wrapS hlt hmax
        obtain ⟨b0, o0, ea, hbb, hat⟩ := (F.out.1.keep hb fun _ _ h => h.keep hb).sl.at hlt
        dsimp only at ea
        subst ea
        obtain ⟨x, hx⟩ : ∃ x, L.getD i default = x := ⟨_, rfl⟩
        obtain ⟨y, hy⟩ : ∃ y, M.getD i default = y := ⟨_, rfl⟩
        dsimp only at hat
        rw [hx] at hat
        have hxo : AtOk w x.a := by rw [← hx]; exact (F.out.1.all _ (getD_mem (by rw [← HL.out]; exact hlt))).a
        have hyo : AtOk w y.a := by rw [← hy]; exact (F.out.2.all _ (getD_mem (by rw [← HM.out]; exact hlt))).a
        have hxr : (L.map RtV.rt).getD i default = x.rt := by rw [getD_map_rt (by rw [← HL.out]; exact hlt), hx]
        have hyr : (M.map RtV.rt).getD i default = y.rt := by rw [getD_map_rt (by rw [← HM.out]; exact hlt), hy]
        have G := Lib.hid (And.intro hb (And.intro hall (And.intro hxo (And.intro hyo (And.intro hxr (And.intro hyr hy))))))
        have c0 := hat 0 (by decide)
        have c1 := hat 1 (by decide)
        have c2 := hat 2 (by decide)
        have c3 := hat 3 (by decide)
        have c4 := hat 4 (by decide)
        have c5 := hat 5 (by decide)
        have c6 := hat 6 (by decide)
        have c7 := hat 7 (by decide)
        have c8 := hat 8 (by decide)
        have c9 := hat 9 (by decide)
        simp only [RRt, Nat.add_zero, List.getElem?_cons_zero, List.getElem?_cons_succ] at c0 c1 c2 c3 c4 c5 c6 c7 c8 c9
        clear hat hb hall hxo hyo hxr hyr hx hy hbb
        go_wp2_with (with_reducible refine halt_store 93 (x := .tmp 8) rfl ?_)
        refine Halted.go ?_
        have hal := (Below.refl w2.heap.size w2).alloc (Nat.le_refl _) (.cells #[.int .i64 0, .int .u32 0, .int .i64 0, .int .i64 0, .int .i64 0, .slice none 0 0, .int .u32 0, .int .i64 0, .int .i64 0, .slice none 0 0] 93)
        refine store_whole rfl 93 _ _ rfl w2.heap.size #[.int .i64 x.r, .int .u32 (x.k.1 : Int), .int .i64 x.k.2, .int .i64 x.i, .int .i64 x.a.o, .slice x.a.p.a x.a.p.n x.a.p.c, .int .u32 x.a.nx, .int .i64 x.a.md, .int .i64 x.a.pf, .slice x.a.c.a x.a.c.n x.a.c.c] rfl rfl (hnew _ _) rfl (by kernel_rfl) (by simp [Value.oneCell']) ?_
        intro W3 hwz hsz
        have hzb : Below w2.heap.size w2 W3 := Below.trans hal (hsz.below (Nat.le_refl _))
        have hb3 := bcall G.out.1 (Nat.le_refl _) hzb
        obtain ⟨b1, o1, ea, hbb, hat⟩ := (F.out.2.keep hb3 fun _ _ h => h.keep hb3).sl.at hlt
        dsimp only at ea
        subst ea
        dsimp only at hat
        rw [G.out.2.2.2.2.2.2] at hat
        have G3 := Lib.hid (And.intro hb3 (show BxR w2.heap.size x W3 from hwz))
        clear hal hwz hsz hzb hb3 hbb c0 c1 c2 c3 c4 c5 c6 c7 c8 c9
        have c0 := hat 0 (by decide)
        have c1 := hat 1 (by decide)
        have c2 := hat 2 (by decide)
        have c3 := hat 3 (by decide)
        have c4 := hat 4 (by decide)
        have c5 := hat 5 (by decide)
        have c6 := hat 6 (by decide)
        have c7 := hat 7 (by decide)
        have c8 := hat 8 (by decide)
        have c9 := hat 9 (by decide)
        simp only [RRt, Nat.add_zero, List.getElem?_cons_zero, List.getElem?_cons_succ] at c0 c1 c2 c3 c4 c5 c6 c7 c8 c9
        clear hat
        go_wp2_with (with_reducible refine halt_store 93 (x := .tmp 9) rfl ?_)
        refine Halted.go ?_
        have hal := (Below.refl W3.heap.size W3).alloc (Nat.le_refl _) (.cells #[.int .i64 0, .int .u32 0, .int .i64 0, .int .i64 0, .int .i64 0, .slice none 0 0, .int .u32 0, .int .i64 0, .int .i64 0, .slice none 0 0] 93)
        refine store_whole rfl 93 _ _ rfl W3.heap.size #[.int .i64 y.r, .int .u32 (y.k.1 : Int), .int .i64 y.k.2, .int .i64 y.i, .int .i64 y.a.o, .slice y.a.p.a y.a.p.n y.a.p.c, .int .u32 y.a.nx, .int .i64 y.a.md, .int .i64 y.a.pf, .slice y.a.c.a y.a.c.n y.a.c.c] rfl rfl (hnew _ _) rfl (by kernel_rfl) (by simp [Value.oneCell']) ?_
        intro W4 hwz hsz
        have hzb : Below W3.heap.size W3 W4 := Below.trans hal (hsz.below (Nat.le_refl _))
        have hb4 := bcall G3.out.1 (Nat.le_refl _) hzb
        have hX4 : BxR w2.heap.size x W4 := G3.out.2.keep hzb
        have hY4 : BxR W3.heap.size y W4 := hwz
        have HC := Lib.hid (same14_any (G.out.2.2.1.keep hb4) (G.out.2.2.2.1.keep hb4))
        have G4 := Lib.hid hb4
        clear hal hwz hsz hzb hb4 c0 c1 c2 c3 c4 c5 c6 c7 c8 c9
        have c0 := cell_of (o := 0) hX4 rfl
        have c1 := cell_of (o := 1) hX4 rfl
        have c2 := cell_of (o := 2) hX4 rfl
        have c3 := cell_of (o := 3) hX4 rfl
        have c4 := cell_of (o := 4) hX4 rfl
        have c5 := cell_of (o := 5) hX4 rfl
        have c6 := cell_of (o := 6) hX4 rfl
        have c7 := cell_of (o := 7) hX4 rfl
        have c8 := cell_of (o := 8) hX4 rfl
        have c9 := cell_of (o := 9) hX4 rfl
        have d0 := cell_of (o := 0) hY4 rfl
        have d1 := cell_of (o := 1) hY4 rfl
        have d2 := cell_of (o := 2) hY4 rfl
        have d3 := cell_of (o := 3) hY4 rfl
        have d4 := cell_of (o := 4) hY4 rfl
        have d5 := cell_of (o := 5) hY4 rfl
        have d6 := cell_of (o := 6) hY4 rfl
        have d7 := cell_of (o := 7) hY4 rfl
        have d8 := cell_of (o := 8) hY4 rfl
        have d9 := cell_of (o := 9) hY4 rfl
        clear hX4 hY4
        obtain ⟨bv, hbv⟩ : ∃ b, decide (x.rt = y.rt) = b := ⟨_, rfl⟩
        rw [hbv] at HC
        have HBV := Lib.hid hbv
        clear hbv
        go_wp2_with fail
        refine (HC.out).mono ?_
        rintro e w5 ⟨rfl, hb5⟩
        have G5 := Lib.hid (bcall G4.out (Nat.le_refl _) hb5)
        clear hb5 HC c0 c1 c2 c3 c4 c5 c6 c7 c8 c9 d0 d1 d2 d3 d4 d5 d6 d7 d8 d9
        cases bv with
        | true =>
          go_wp2_with fail
          exact ⟨⟨i + 1, hlt, by first | rw [hw3] | rw [Int.natCast_succ], fun j hj => (Nat.lt_succ_iff_lt_or_eq.1 hj).elim (G.out.2.1 j) (fun e => by rw [e, G.out.2.2.2.2.1, G.out.2.2.2.2.2.1]; exact of_decide_eq_true HBV.out), G5.out⟩, by first | (rw [hw3]; exact mSucc hlt) | (rw [← Int.natCast_succ]; exact mSucc hlt)⟩
        | false =>
          go_wp2_with fail
          go_ret
          exact ⟨ret_bool (by
            rw [← HV.out]
            refine (decide_eq_false fun h => of_decide_eq_false HBV.out ?_).symm
            rw [← G.out.2.2.2.2.1, ← G.out.2.2.2.2.2.1, h]), G5.out⟩
      · obtain rfl : n = i := by omega
        have hil : ((n : Int) < (n : Int)) = False := by simp
        have HB := Lib.hid (And.intro hb hall)
        clear hb hall
        go_wp2_with fail
        go_ret
        exact ⟨ret_bool (by rw [← HV.out]; exact (decide_eq_true (getD_ext (by rw [List.length_map, List.length_map]; exact HL.out.symm.trans HM.out) fun j hj => HB.out.2 j (by rw [HL.out]; simpa using hj))).symm), HB.out.1⟩
  · have e1 : ((n : Int) == (m : Int)) = false := by simpa using fun e : (n : Int) = m => hnm (by omega)
    have HV := Lib.hid (show decide (L.map RtV.rt = M.map RtV.rt) = false from decide_eq_false fun e => hnm (by
      have h1 : n = L.length := h.sl.len
      have h2 : m = M.length := k.sl.len
      have := congrArg List.length e
      rw [List.length_map, List.length_map] at this
      omega))
    generalize decide (L.map RtV.rt = M.map RtV.rt) = v at *
    clear h k hnm
    go_enter Tryz.func128, Tryz.ntmps128
    go_wp2_with fail
    go_ret
    exact ⟨ret_bool HV.out.symm, Below.refl _ _⟩
end Go.Proofs.YtadoflcomienoaaGreat
/- The prefixes whose routes are others. -/
namespace Go.Proofs.YtadoflcomienoaaGreat
open Go.RowKit
open Go.ChangeMaps (setBlock)

def RPk : Rep PK := ⟨58, 2, by decide, fun x => [.int .u32 (x.1 : Int), .int .i64 x.2], fun _ => rfl, fun _ => rfl⟩
theorem TPk : Rep.Ty Tryz.prog 67 RPk 16 := Rep.Ty.mk' Tryz.underlying67 (z := .agg #[.int .u32 0, .int .i64 0]) (by kernel_rfl) rfl
theorem swoK : Go.Sort.SWO (Go.Proofs.ltOf cmpK) := by
  have h : ∀ x y : PK, Go.Proofs.ltOf cmpK x y = ltK x y := by
    intro x y
    unfold Go.Proofs.ltOf
    have := @cmpK_lt x y
    cases hh : ltK x y with
    | true => rw [hh] at this; simpa using this
    | false => rw [hh] at this; simpa using this
  refine ⟨fun x => by rw [h]; exact ltK_irr _, fun x y z h1 h2 => by rw [h] at *; exact ltK_trans h1 h2, fun x y z h1 h2 => ?_⟩
  rw [h] at *
  rw [Bool.eq_false_iff] at *
  rw [ne_eq, ltK_iff] at *
  omega
theorem cmpK_lays (g n : Nat) (w : World) : Go.Proofs.CmpLays Tryz.prog 93 #[] RPk.cells RPk.k cmpK g 0 n w := by
  intro m os dk _ x y
  exact acompare_any x y _
theorem enters_cmpK : Go.Proofs.Enters Tryz.prog 93 := Go.Proofs.enters_of Tryz.func93 (by decide) rfl
theorem sorted_ordK {M : List PK} (h : Rep.SortedBy cmpK M) (hn : M.Nodup) : Kl.Ordered ltK M := by
  unfold Kl.Ordered
  rw [List.pairwise_iff_getElem]
  intro i j hi hj hij
  have h1 := h i j hij hj
  simp only [List.getD_eq_getElem?_getD, List.getElem?_eq_getElem hi, List.getElem?_eq_getElem hj, Option.getD_some] at h1
  rw [cmpK_ge] at h1
  rw [List.nodup_iff_pairwise_ne, List.pairwise_iff_getElem] at hn
  have h2 := hn i j hi hj hij
  rcases ltK_total M[i] M[j] with h | h | h
  · exact h
  · exact absurd h h2
  · rw [h] at h1; cases h1
/-- is this one another now? -/
def isO (S0 S : List Rt) (t : TwV) : Bool := !decide (routesR S0 t.k = routesR S t.k)
theorem chg_of {S0 S : List Rt} {T : List TwV} {L M : List PK} (hnd : (T.map TwV.k).Nodup) (hrest : ∀ k, (∀ t ∈ T, t.k ≠ k) → routesR S k = routesR S0 k) (hL : L.Perm ((T.filter (isO S0 S)).map TwV.k)) (hM : M.Perm L) (hs : Rep.SortedBy cmpK M) : Chg S0 S M := by
  have hp := hM.trans hL
  refine ⟨sorted_ordK hs (hp.symm.nodup (Kl.nodup_filter hnd _)), fun k => ?_⟩
  rw [hp.mem_iff, List.mem_map]
  constructor
  · rintro ⟨t, ht, rfl⟩
    obtain ⟨h1, h2⟩ := List.mem_filter.1 ht
    unfold isO at h2
    simpa using h2
  · intro hne
    by_cases hex : ∃ t ∈ T, t.k = k
    · obtain ⟨t, ht, rfl⟩ := hex
      refine ⟨t, List.mem_filter.2 ⟨ht, ?_⟩, rfl⟩
      unfold isO
      simpa using hne
    · exact absurd (hrest k fun t ht e => hex ⟨t, ht, e⟩).symm hne
set_option maxRecDepth 100000 in
set_option maxHeartbeats 8000000 in
theorem changed_any {w : World} {R : Rb} {X : Nat → Prop} {n : Nat} {asn room ref : Int} {G : List RtV} (H : RibAt w R X n asn room ref G) {bm : Nat} {S0 : List Rt} {T : List TwV} (HT : TwOk w R X bm S0 (G.map RtV.rt) T) (hlen : T.length ≤ 4000000) (hG : G.length ≤ 4000000) : Calls Tryz.prog 84 #[.pointer (some ⟨R.b, 0, none⟩), .map (some bm)] w fun e w' => ∃ v L, e = .returned v ∧ RPk.Own w' w.heap.size v L ∧ Chg S0 (G.map RtV.rt) L ∧ Below w.heap.size w w' := by
  have hlt := HT.at'.lt
  have hndT := HT.at'.nd
  have HA := Lib.hid (And.intro H (And.intro HT (And.intro hlen (And.intro hG hndT))))
  obtain ⟨clk, es, k2, k3⟩ := HT.at'
  have hrg := MR.run_range PN k2 Tryz.underlying136
  have hal := (Below.refl w.heap.size w).alloc (Nat.le_refl _) (.mapIter (some bm) clk #[] clk)
  have hit : (w.alloc (.mapIter (some bm) clk #[] clk)).heap[w.heap.size]? = some (.mapIter (some bm) clk #[] clk) := hnew _ _
  have HF := Lib.hid (And.intro k2 (And.intro k3 hlt))
  have HLE := Lib.hid (show es.length ≤ 4000000 from by rw [k3.len]; exact hlen)
  have HW := Lib.hid (And.intro hal hit)
  clear k2 k3 hal hit hlt hlen H HT hG hndT
  go_enter Tryz.func84, Tryz.ntmps84
  go_wp2_with fail
  go_loopw [5] (fun ov wr => ∃ (done : List (MR.Ent PK)) (seen : Array Nat), RPk.Own wr (w.heap.size + 1) ov (((done.map (Kl.ofE TwV.k T)).filter (isO S0 (G.map RtV.rt))).map TwV.k) ∧ wr.heap[w.heap.size]? = some (.mapIter (some bm) clk seen clk) ∧ MR.Ran es seen done ∧ Below w.heap.size w wr ∧ w.heap.size + 1 ≤ wr.heap.size) (fun _ wr => es.length - seenN wr w.heap.size)
  case atStart => exact ⟨[], #[], Rep.Own.nil _ _, HW.out.2, MR.Ran.none _, HW.out.1, by simp⟩
  case round =>
    obtain ⟨done, seen, hown, hit, hran, hb, hsz⟩ := hrel
    obtain ⟨w2, rfl⟩ : ∃ w2 : World, w2 = wr := ⟨_, rfl⟩
    have hm2 : MR.MapAt PN w2 bm es clk := HF.out.1.blk_iff PN (hb.block _ HF.out.2.2)
    obtain ⟨hdl, hsd⟩ := Ran_len hran HF.out.1.bnodup
    obtain ⟨oa, cc, rfl, -, -⟩ := hown.sl0
    have hll : (((done.map (Kl.ofE TwV.k T)).filter (isO S0 (G.map RtV.rt))).map TwV.k).length ≤ done.length := by
      rw [List.length_map]
      refine Nat.le_trans (List.length_filter_le _ _) ?_
      rw [List.length_map]
      exact Nat.le_refl _
    rcases MR.next_step PN hm2 hit 0 with ⟨hall, hnx⟩ | ⟨e, hein, hens, w3, hnx, hset⟩
    · have hpe := ((hran.all HF.out.1.bnodup hall).map (Kl.ofE TwV.k T)).trans HF.out.2.1.perm
      have hpl := (hpe.filter (isO S0 (G.map RtV.rt))).map TwV.k
      have hln : (((done.map (Kl.ofE TwV.k T)).filter (isO S0 (G.map RtV.rt))).map TwV.k).length < 4611686018427387904 := by have := HLE.out; omega
      have HS := Lib.hid (sort_ownB (R := RPk) sortPf Tryz.isAgg58 Tryz.sizeOf58 cmpK swoK 93 #[] enters_cmpK hown (fun g => cmpK_lays g _ _) hln hsz)
      have G2 := Lib.hid (And.intro hpl (And.intro hb (And.intro hown hsz)))
      generalize (((done.map (Kl.ofE TwV.k T)).filter (isO S0 (G.map RtV.rt))).map TwV.k).length = ml at *
      clear hown hm2 hit hran hb hdl hsd hall hpe hln hpl hsz hll
      go_wp2_with fail
      refine HS.out.mono ?_
      rintro ev w9 ⟨rfl, M, hp, hs, hown9, hg9⟩
      have HE := Lib.hid (And.intro (hown9.mono (Nat.le_succ _)) (And.intro (chg_of HA.out.2.2.2.2 HA.out.2.1.rest G2.out.1 hp hs) (show Below w.heap.size w w9 from G2.out.2.1.trans (grown_below hg9 G2.out.2.1.size (fun g e => by
        have h1 := (World.ownsRow.lt G2.out.2.2.1 g e).1
        omega)))))
      clear hp hs hown9 hg9 HS
      go_wp2_with fail
      go_ret
      exact ⟨_, M, rfl, HE.out⟩
    · have hm3 := hm2.blk_iff PN (hset.other (show bm ≠ w.heap.size from by have := HF.out.2.2; omega))
      have hen := MR.run_entry PN hm3 hein (hset.at hsz)
      have hent0 := HF.out.2.1.ent hein
      have htm := hent0.2.2.2
      rw [hent0.2.1] at hnx hen
      rw [← hent0.2.2.1] at hen
      have hown3 := Rep.Own.but hown (But.of_set hset (bs := [w.heap.size]) (by simp)) (by simp)
      have hb3 : Below w.heap.size w w3 := hb.trans (hset.below (Nat.le_refl _))
      have hr3 := hran.more hein hens
      have hit3 := hset.at hsz
      have hs3 : w.heap.size + 1 ≤ w3.heap.size := by rw [hset.size]; exact hsz
      have hms : seenN w2 w.heap.size = seen.size := seenN_of hit
      have hdl3 := (Ran_len hr3 HF.out.1.bnodup)
      have hme : (done ++ [e]).map (Kl.ofE TwV.k T) = done.map (Kl.ofE TwV.k T) ++ [Kl.ofE TwV.k T e] := by rw [List.map_append]; rfl
      obtain ⟨L0, hL0⟩ : ∃ L0, ((done.map (Kl.ofE TwV.k T)).filter (isO S0 (G.map RtV.rt))).map TwV.k = L0 := ⟨_, rfl⟩
      rw [hL0] at hown3 hll ⊢
      obtain ⟨n0, hn0⟩ : ∃ n, L0.length = n := ⟨_, rfl⟩
      rw [hn0] at hown3 hll ⊢
      have HG := Lib.hid (And.intro hown3 (And.intro hr3 (And.intro hb3 (And.intro hs3 (And.intro hit3 (And.intro hme (And.intro hdl3 (And.intro hms (And.intro hL0 (And.intro hn0 hll))))))))))
      generalize Kl.ofE TwV.k T e = t at *
      have HTM := Lib.hid htm
      have hke : PN.enc t.k = .agg #[.int .u32 (t.k.1 : Int), .int .i64 t.k.2] := rfl
      rw [hke] at hen
      obtain ⟨ke, hkv⟩ : ∃ v, PN.enc e.1 = v := ⟨_, rfl⟩
      try rw [hkv] at hnx
      unfold TwV.v at hnx hen
      clear hown hran hb hdl hsd hm2 hit hm3 hset hens hown3 hr3 hb3 hs3 hit3 hme hdl3 hein hent0 hms hn0 hL0 hll hke hkv hsz htm
      go_wp2_with (with_reducible refine halt_store 58 (x := .tmp 6) rfl ?_)
      refine Halted.go ?_
      have hal := (Below.refl w3.heap.size w3).alloc (Nat.le_refl _) (.cells #[.int .u32 0, .int .i64 0] 58)
      refine store_whole rfl 58 _ _ rfl w3.heap.size #[.int .u32 (t.k.1 : Int), .int .i64 t.k.2] rfl rfl (hnew _ _) rfl (by kernel_rfl) (by simp [Value.oneCell']) ?_
      intro w4 hwz hsz
      have hzb : Below w3.heap.size w3 w4 := Below.trans hal (hsz.below (Nat.le_refl _))
      have hb4 := bcall HG.out.2.2.1 (Nat.le_refl _) hzb
      have HR := routes_any (HA.out.1.below hb4) (HA.out.2.1.key t HTM.out) HA.out.2.2.2.1
      unfold pfx at HR
      have HR := Lib.hid HR
      have z0 := cell_of (o := 0) hwz rfl
      have z1 := cell_of (o := 1) hwz rfl
      have H4 := Lib.hid (And.intro hzb hwz)
      clear hal hwz hsz hzb hb4 hnx hen
      go_wp2_with fail
      refine (HR.out).mono ?_
      rintro e2 w5 ⟨s, rfl, hs1, hs2, hb5⟩
      have hb35 := bcall H4.out.1 (Nat.le_refl _) hb5
      have hb05 := bcall HG.out.2.2.1 (Nat.le_refl _) hb35
      have HQ := eqf_any (L := t.s.l) (M := s.l) ((HA.out.2.1.hold t HTM.out).now.keep hb05 fun _ _ h => h.keep hb05) hs1.sl
      rw [hs2, HA.out.2.1.was t HTM.out] at HQ
      have HQ := Lib.hid HQ
      have hw5 := (hb5.block _ (lt_of_blk H4.out.2)).trans H4.out.2
      have H5 := Lib.hid (And.intro hb35 hw5)
      clear hs1 hs2 hb5 hb35 hb05 hw5 HR z0 z1 H4
      go_wp2_with fail
      refine (HQ.out).mono ?_
      rintro e3 w6 ⟨rfl, hb6⟩
      have hb36 := bcall H5.out.1 (Nat.le_refl _) hb6
      have hw6 := (hb6.block _ (lt_of_blk H5.out.2)).trans H5.out.2
      have z0 := cell_of (o := 0) hw6 rfl
      have z1 := cell_of (o := 1) hw6 rfl
      have H6 := Lib.hid hb36
      clear hb6 hb36 hw6 HQ H5
      obtain ⟨bv, hbv⟩ : ∃ b, decide (routesR S0 t.k = routesR (G.map RtV.rt) t.k) = b := ⟨_, rfl⟩
      rw [hbv]
      have HBV := Lib.hid (show isO S0 (G.map RtV.rt) t = !bv by unfold isO; rw [hbv])
      clear hbv
      cases bv with
      | true =>
        clear z0 z1
        go_wp2_with fail
        obtain ⟨g1, g2, g3, g4, g5, g6, g7, g8, g9, g10, g11⟩ := HG.out
        have hit6 := (H6.out.block _ (Nat.lt_of_lt_of_le (Nat.lt_succ_self _) g4)).trans g5
        refine ⟨⟨done ++ [e], seen.push e.2.2, ?_, hit6, g2, bcall g3 (Nat.le_refl _) H6.out, Nat.le_trans g4 H6.out.size⟩, ?_⟩
        · rw [g6, List.filter_append, List.map_append, g9]
          have : List.filter (isO S0 (G.map RtV.rt)) [t] = [] := by rw [List.filter_cons, HBV.out]; rfl
          rw [this, List.map_nil, List.append_nil]
          have h1 := g1.below H6.out
          rw [← g10] at h1
          first | exact h1 | (rw [← g10]; exact h1)
        · have h5 : seenN w6 w.heap.size = (seen.push e.2.2).size := seenN_of hit6
          have h6 := g7.2
          have h7 := g7.1
          rw [h5, g8]
          rw [Array.size_push] at h6 ⊢
          omega
      | false =>
        go_wp2_with (at_builtin; refine halt ?_)
        refine Halted.go ?_
        clear z0 z1
        have hn2 : n0 ≤ 4000000 := by
          have h1 := HG.out.2.2.2.2.2.2.1.1
          have h3 := HLE.out
          have h4 := HG.out.2.2.2.2.2.2.2.2.2.2
          rw [List.length_append] at h1
          omega
        have hnl : L0.length = n0 := HG.out.2.2.2.2.2.2.2.2.2.1
        have hal := (Below.refl w6.heap.size w6).alloc (Nat.le_refl _) (.cells #[.int .u32 (t.k.1 : Int), .int .i64 t.k.2] 58)
        have hb7 := bcall H6.out (Nat.le_refl _) hal
        refine Rep.append_list TPk rfl _ _ rfl rfl (HG.out.1.below hb7) rfl (Rep.sl_one (R := RPk) (y := t.k) (hnew _ _)) (fun h => by cases h) (by rw [hnl]; unfold maxLen; omega) (by rw [hnl]; omega) (Nat.le_trans HG.out.2.2.2.1 hb7.size) ?_
        intro v9 w9 hown9 hb9 _
        obtain ⟨o9, c9, rfl, -, -⟩ := hown9.sl0
        have hbz : Below (w.heap.size + 1) w3 w9 := (hb7.mono HG.out.2.2.2.1).trans hb9
        obtain ⟨l9, hl9⟩ : ∃ z, (L0 ++ [t.k]).length = z := ⟨_, rfl⟩
        rw [hl9] at hown9 ⊢
        have HK := Lib.hid (And.intro hown9 (And.intro hbz hl9))
        clear hown9 hb9 hbz hal hb7 hl9 hnl hn2
        go_wp2_with fail
        obtain ⟨g1, g2, g3, g4, g5, g6, g7, g8, g9, g10, g11⟩ := HG.out
        have hit9 := (HK.out.2.1.block _ (Nat.lt_succ_self _)).trans g5
        refine ⟨⟨done ++ [e], seen.push e.2.2, ?_, hit9, g2, g3.trans (HK.out.2.1.mono (Nat.le_succ _)), Nat.le_trans g4 HK.out.2.1.size⟩, ?_⟩
        · rw [g6, List.filter_append, List.map_append, g9]
          have : List.filter (isO S0 (G.map RtV.rt)) [t] = [t] := by rw [List.filter_cons, HBV.out]; rfl
          rw [this, List.map_cons, List.map_nil]
          have h1 := HK.out.1
          rw [← HK.out.2.2] at h1
          first | exact h1 | (rw [← HK.out.2.2]; exact h1)
        · have h5 : seenN w9 w.heap.size = (seen.push e.2.2).size := seenN_of hit9
          have h6 := g7.2
          have h7 := g7.1
          rw [h5, g8]
          rw [Array.size_push] at h6 ⊢
          omega
end Go.Proofs.YtadoflcomienoaaGreat
/- Those with the attributes of the first one, and the rest, as the program tells. -/
namespace Go.Proofs.YtadoflcomienoaaGreat
open Go.RowKit

structure SmC (q : Nat) (x : SyV) (b o : Nat) (x0 : SyV) (W : World) : Prop where
  bx : BxY q x W
  at' : RSy.At W b o x0
  lt : b < W.heap.size
theorem SmC.keep {q b o : Nat} {x x0 : SyV} {W W' : World} (h : SmC q x b o x0 W) (hb : Below W.heap.size W W') : SmC q x b o x0 W' := ⟨h.bx.keep hb, h.at'.keep (hb.block _ h.lt), Nat.lt_of_lt_of_le h.lt hb.size⟩
end Go.Proofs.YtadoflcomienoaaGreat
/- Updates of what comes, as the program tells. -/
namespace Go.Proofs.YtadoflcomienoaaGreat
open Go.RowKit

theorem NewS.cut {α : Type} [Inhabited α] {R : Rep α} {w : World} {B : Nat} {a sa : Option Addr} {n c m d : Nat} {L M : List α} (h : NewS B (⟨a, n, c, L⟩ : SlV α)) (hs : R.Sl w a n c L) (hm : 0 < m → 0 < n) (hb : ∀ b o, a = some ⟨b, o, none⟩ → ∃ o', sa = some ⟨b, o', none⟩) : NewS B (⟨sa, m, d, M⟩ : SlV α) := by
  intro h0 x e
  obtain ⟨b, o, ea, -⟩ := hs.row (hm h0)
  obtain ⟨o', e'⟩ := hb b o ea
  have h1 := h (hm h0) _ ea
  dsimp only at e
  rw [e'] at e
  injection e with e
  rw [← e]
  exact h1
theorem smA_of {four : Bool} {w : World} {x : AtV} (hx : AtOk w x) (h : okA four x.at = true) : SmA x := by
  rw [okA_at hx] at h
  simp only [Bool.and_eq_true, decide_eq_true_eq] at h
  refine ⟨by omega, by omega, fun y hy => ?_⟩
  have h1 := List.all_eq_true.1 h.1.2.2 y hy
  unfold okSg at h1
  simp only [Bool.and_eq_true, decide_eq_true_eq] at h1
  have h2 : y.s.n = y.s.l.length := (hx.p.all y hy).sl.len
  have h3 : y.sg.2.length = y.s.l.length := rfl
  omega
end Go.Proofs.YtadoflcomienoaaGreat
