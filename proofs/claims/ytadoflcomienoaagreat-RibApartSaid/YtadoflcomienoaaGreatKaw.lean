/- RibApart. -/
import Derived.Test.YtadoflcomienoaaGreatKas
import Derived.Test.YtadoflcomienoaaGreatKau
import Derived.Test.YtadoflcomienoaaGreatKav
import Derived.Test.YtadoflcomienoaaGreatKat
namespace Go.Proofs.YtadoflcomienoaaGreat
open Go.RowKit

def RSl : Rep (SlV RtV) := ⟨72, 1, by decide, fun s => [.slice s.a s.n s.c], fun _ => rfl, fun _ => rfl⟩
theorem TRSl : Rep.Ty Tryz.prog 71 RSl 24 := Rep.Ty.mk' Tryz.underlying71 (z := .slice none 0 0) (by kernel_rfl) rfl
def PE (B : Nat) (W : World) (s : SlV RtV) : Prop := HoldF (fun k => k < B) W fun V => SlOk RRt RtOk V s
theorem pe_firm {B N : Nat} {W : World} {s : SlV RtV} {g : Option Nat} (h : HoldF (fun k => k < N) W fun V => SlOk RRt RtOk V s) (hB : B ≤ N) (hg : ∀ k, g = some k → k < N) : Firm g W fun V => PE B V s := fun _w2 hgr =>
  HoldF.turn h hgr.size (fun k hk hn => hgr.block k hk (fun e => hn (hg k e.symm))) fun _k hk => .inl (Nat.lt_of_lt_of_le hk hB)
theorem was_hold {B : Nat} {W : World} {v : Value} {L : List (SlV RtV)} (h : OwnP RSl (PE B) W B v L) : ∃ s : SlV (SlV RtV), v = .slice s.a s.n s.c ∧ s.l = L ∧ HoldF (fun k => k < B) W fun V => SlOk RSl (fun V s => SlOk RRt RtOk V s) V s := by
  obtain ⟨s, rfl, rfl, h1, h2, -⟩ := Own_slok (ok := PE B) h.own fun x hx => (h.el x hx).now
  refine ⟨s, rfl, rfl, fun w' hs he => ?_⟩
  have h3 : SlOk RSl okT W s := ⟨h1.sl, h1.nil, h1.nc, h1.cm, fun _ _ => trivial⟩
  have h4 := h3.same (w' := w') (fun hn a e hl => he _ hl fun hf => by have := h2 hn a e; omega) fun _ _ _ => trivial
  exact ⟨h4.sl, h4.nil, h4.nc, h4.cm, fun x hx => h1.all x hx w' hs he⟩
section
variable {w W W' : World} {X : Nat → Prop} {b : Nat} {asn room ref : Int} {S : List Rt} {P Q : World → Prop}
theorem LvX.kok (h : LvX w X b asn room S ref P W) : ∀ x ∈ S, KOk x.r x.k x.i := by
  obtain ⟨R, n, G, h1, h2, rfl, h4, h5, h6, h7⟩ := h
  intro x hx
  obtain ⟨y, hy, rfl⟩ := List.mem_map.1 hx
  exact h2.okx y hy
theorem lvx_routes (h : LvX w X b asn room S ref P W) (hS : S.length ≤ 4000000) {k : PK} (hk : k.1 < 4294967296 ∧ I64 k.2) : Calls Tryz.prog 32 #[.pointer (some ⟨b, 0, none⟩), pfx k.1 k.2] W fun e w' => ∃ s : SlV RtV, e = .returned (.slice s.a s.n s.c) ∧ s.l.map RtV.rt = routesR S k ∧ HoldF (fun k => k < W.heap.size) w' (fun V => SlOk RRt RtOk V s) ∧ Below W.heap.size W w' := by
  obtain ⟨R, n, G, rfl, h2, h3, h4, h5, h6, h7⟩ := h
  have hGl : G.length = S.length := by rw [← h3, List.length_map]
  refine (routes_any h2 hk (by rw [hGl]; exact hS)).mono ?_
  rintro e w' ⟨s, rfl, hs1, hs2, hb⟩
  rw [h3] at hs2
  exact ⟨s, rfl, hs2, hs1.hold fun k hk => hk, hb⟩
/-- any update, may it be or not -/
theorem lvx_any (h : LvX w X b asn room S ref P W) {x : UpV} (hx : ∀ F : Nat → Prop, (∀ k, F k → w.heap.size ≤ k ∧ k < W.heap.size) → HoldF F W fun V => UpOk V x) {r : Int} (hn : x.g.n ≤ 3000 ∧ x.r.n ≤ 3000) (hS : S.length + x.r.n ≤ 3000000) (href : 0 ≤ ref ∧ ref + x.r.n ≤ 900000000) :
    Calls Tryz.prog 30 #[.pointer (some ⟨b, 0, none⟩), .int .i64 r, x.v] W fun e w' => ∃ a n c z, e = .returned (.tuple #[.slice a n c, .int .i64 z]) ∧ ∃ S' ref', LvX w X b asn room S' ref' P w' ∧ S'.length ≤ S.length + x.r.n ∧ (0 ≤ ref' ∧ ref' ≤ ref + x.r.n) ∧ ∀ k, (routesR S' k).filter (fun x => decide (x.r ≠ r)) = (routesR S k).filter (fun x => decide (x.r ≠ r)) := by
  have hxn : UpOk W x := (hx (fun _ => False) fun k hk => hk.elim).now
  have hl : x.up.routes.length = x.r.n := hxn.r.sl.len.symm
  by_cases hm : mayR r x.up = true
  · refine (lvx_apply h (Below.refl _ _) hx hm hn hS href).mono ?_
    rintro e w' ⟨s, rfl, -, hst, -⟩
    have h1 := apply_len (asn := asn) (room := room) (u := x.up) (s := (S, ref)) h.rok (may_range hm).1
    have h2 := apply_ref (asn := asn) (room := room) (r := r) (u := x.up) (s := (S, ref))
    have h3 := fun k => without_R (asn := asn) (room := room) (u := x.up) (s := (S, ref)) h.rok (may_range hm).1 k
    rw [hl] at h1 h2
    dsimp only at h1 h2 h3
    exact ⟨_, _, _, _, rfl, _, _, hst.imp fun _ h => h.1, h1, ⟨by omega, h2.2⟩, h3⟩
  · refine (lv_bad h.lvs hxn (Bool.not_eq_true _ ▸ hm)).mono ?_
    rintro e w' ⟨rfl, -, hb⟩
    exact ⟨_, _, _, _, rfl, _, _, h.keep hb, Nat.le_add_right _ _, ⟨href.1, by omega⟩, fun _ => rfl⟩
end
theorem pfx_len {S : List Rt} {L : List PK} (h : PfxOf S L) : L.length ≤ S.length := by
  have hnd : L.Nodup := by
    have := ordered_nodup (key := fun k : PK => k) h.ord
    simpa using this
  have := nodup_len (M := S.map Rt.k) hnd fun k hk => by
    obtain ⟨x, hx, rfl⟩ := (h.is k).1 hk
    exact List.mem_map.2 ⟨x, hx, rfl⟩
  simpa using this
theorem filter_rt {L : List RtV} (r : Int) : (L.filter (notR r)).map RtV.rt = (L.map RtV.rt).filter fun x => decide (x.r ≠ r) := by
  rw [List.filter_map]
  congr 1
  refine List.filter_congr fun x _ => ?_
  show (!decide (x.r = r)) = decide (x.r ≠ r)
  by_cases h : x.r = r <;> simp [h]
theorem at_rangeO {W : World} {b o : Nat} {z : OpV} (h : ROp.At W b o z) : W.rangeAt b (o + 2) (#[.slice z.u.g.a z.u.g.n z.u.g.c, .slice z.u.r.a z.u.r.n z.u.r.c, .int .i64 z.u.a.o, .slice z.u.a.p.a z.u.a.p.n z.u.a.p.c, .int .u32 z.u.a.nx, .int .i64 z.u.a.md, .int .i64 z.u.a.pf, .slice z.u.a.c.a z.u.a.c.n z.u.a.c.c, .bool z.u.soft] : Array Value).toList := by
  intro j v hv
  have hj : j < 9 := (List.getElem?_eq_some_iff.1 hv).1
  have h1 := h (2 + j) (show 2 + j < 11 by omega)
  rw [← Nat.add_assoc] at h1
  refine h1.trans ?_
  rw [← hv]
  match j, hj with
  | 0, _ => rfl
  | 1, _ => rfl
  | 2, _ => rfl
  | 3, _ => rfl
  | 4, _ => rfl
  | 5, _ => rfl
  | 6, _ => rfl
  | 7, _ => rfl
  | 8, _ => rfl
theorem OpOk.keep {w w' : World} {x : OpV} (h : OpOk w x) (hb : Below w.heap.size w w') : OpOk w' x := ⟨h.1, h.2.1, h.2.2.keep hb⟩
theorem sl_at {α : Type} [Inhabited α] {R : Rep α} {W : World} {b0 o0 n c i : Nat} {l : List α} (h : R.Sl W (some ⟨b0, o0, none⟩) n c l) (hi : i < n) : R.At W b0 (o0 + i * R.k) (l.getD i default) := by
  obtain ⟨b, o, e, -, hat⟩ := h.at hi
  injection e with e
  injection e with e1 e2
  subst e1 e2
  exact hat
theorem op_keep {V W : World} {b o : Nat} {y : OpV} (h : ROp.At V b o y) (hb : Below V.heap.size V W) : ROp.At W b o y := fun j hj =>
  (hb.cell (World.block_lt_of_cell? _ _ (by rw [h j hj, List.getElem?_eq_getElem (by rw [ROp.len]; exact hj)]))).trans (h j hj)
theorem KOk.pkR {r : Int} {k : PK} {i : Int} (h : KOk r k i) : k.1 < 4294967296 ∧ I64 k.2 := ⟨h.a, by have h1 := okP_iff.1 h.p; unfold I64; omega⟩
theorem take_map_succ {α β : Type} [Inhabited α] (f : α → β) (l : List α) (i : Nat) (h : i < l.length) : (l.take (i + 1)).map f = (l.take i).map f ++ [f (l.getD i default)] := by
  rw [List.take_succ_eq_append_getElem h, List.map_append, List.getD_eq_getElem?_getD, List.getElem?_eq_getElem h]
  rfl
theorem map_getD_eq {α β γ : Type} [Inhabited α] [Inhabited β] {f : α → γ} {g : β → γ} {L : List α} {M : List β} {i : Nat} (h : L.map f = M.map g) (hi : i < L.length) (hj : i < M.length) : f (L.getD i default) = g (M.getD i default) := by
  have h1 := congrArg (fun l => l[i]?) h
  simp only [List.getElem?_map, List.getElem?_eq_getElem hi, List.getElem?_eq_getElem hj, Option.map_some] at h1
  injection h1 with h1
  rw [List.getD_eq_getElem?_getD, List.getElem?_eq_getElem hi, List.getD_eq_getElem?_getD, List.getElem?_eq_getElem hj]
  exact h1
theorem routes_len (S : List Rt) (k : PK) : (routesR S k).length ≤ S.length := by
  unfold routesR
  rw [sortK_length]
  exact List.length_filter_le _ _
set_option maxRecDepth 100000 in
set_option maxHeartbeats 16000000 in
theorem apart_law {w : World} {oa : Option Addr} {on oc : Nat} {ol : List OpV} {x : UpV} {r : Int} (ho : SlOk ROp OpOk w ⟨oa, on, oc, ol⟩) (hr : I64 r) (hx : UpOk w x) : Calls Tryz.prog 6 #[.slice oa on oc, .int .i64 r, .agg #[.slice x.g.a x.g.n x.g.c, .slice x.r.a x.r.n x.r.c, .int .i64 x.a.o, .slice x.a.p.a x.a.p.n x.a.p.c, .int .u32 x.a.nx, .int .i64 x.a.md, .int .i64 x.a.pf, .slice x.a.c.a x.a.c.n x.a.c.c, .bool x.soft]] w fun e w' => e = .returned (.bool true) ∧ Below w.heap.size w w' := by
  have hal := (Below.refl w.heap.size w).alloc (Nat.le_refl _) (.cells #[.slice x.g.a x.g.n x.g.c, .slice x.r.a x.r.n x.r.c, .int .i64 x.a.o, .slice x.a.p.a x.a.p.n x.a.p.c, .int .u32 x.a.nx, .int .i64 x.a.md, .int .i64 x.a.pf, .slice x.a.c.a x.a.c.n x.a.c.c, .bool x.soft] 42)
  have hbx : BxU w.heap.size x (w.alloc (.cells #[.slice x.g.a x.g.n x.g.c, .slice x.r.a x.r.n x.r.c, .int .i64 x.a.o, .slice x.a.p.a x.a.p.n x.a.p.c, .int .u32 x.a.nx, .int .i64 x.a.md, .int .i64 x.a.pf, .slice x.a.c.a x.a.c.n x.a.c.c, .bool x.soft] 42)) := hnew _ _
  have H0 := Lib.hid (And.intro (ho.keep hal fun _ _ h => h.keep hal) (And.intro (hx.keep hal) (And.intro hbx (And.intro hr (And.intro True.intro hal)))))
  have HN := Lib.hid (lvx_new (X := fun _ => False) (P := fun _ => True) (w.alloc (.cells #[.slice x.g.a x.g.n x.g.c, .slice x.r.a x.r.n x.r.c, .int .i64 x.a.o, .slice x.a.p.a x.a.p.n x.a.p.c, .int .u32 x.a.nx, .int .i64 x.a.md, .int .i64 x.a.pf, .slice x.a.c.a x.a.c.n x.a.c.c, .bool x.soft] 42)) _ (Below.refl _ _) (fun k hk => hk.elim) (fun _ _ _ => trivial) 65000 65536 (by decide))
  clear hal hbx ho hx hr
  go_enter Tryz.func6, Tryz.ntmps6
  go_wp2_with fail
  generalize w.alloc (.cells #[.slice x.g.a x.g.n x.g.c, .slice x.r.a x.r.n x.r.c, .int .i64 x.a.o, .slice x.a.p.a x.a.p.n x.a.p.c, .int .u32 x.a.nx, .int .i64 x.a.md, .int .i64 x.a.pf, .slice x.a.c.a x.a.c.n x.a.c.c, .bool x.soft] 42) = V at *
  refine (HN.out).mono ?_
  rintro e W1 ⟨b, rfl, hst, -⟩
  have F1 := Lib.hid hst
  clear hst HN
  go_wp2_with fail
  refine (lives14 _).mono ?_
  rintro e W2 ⟨rfl, hb⟩
  have F2 := Lib.hid (F1.out.keep hb)
  clear hb F1
  by_cases h30 : 30 < on
  · have e30 : ((30 : Int) < (on : Int)) = True := by simp; omega
    clear h30
    go_wp2_with fail
    refine (lives14 _).mono ?_
    rintro e W9 ⟨rfl, hb⟩
    have FE := Lib.hid (bcall (H0.out.2.2.2.2.2.trans (F2.out.bw.mono H0.out.2.2.2.2.2.size)) (Nat.le_refl _) hb)
    clear hb
    go_wp2_with fail
    go_ret
    exact ⟨rfl, FE.out⟩
  · have e30 : ((30 : Int) < (on : Int)) = False := by simp; omega
    have H30 := Lib.hid h30
    have hbx := (F2.out.bw.block _ (lt_of_blk H0.out.2.2.1)).trans H0.out.2.2.1
    obtain ⟨c0, c1, c2, c3, c4, c5, c6, c7, c8⟩ := BxU.cells (x := x) hbx
    have HL := largeU_any (H0.out.2.1.keep F2.out.bw)
    unfold UpV.v at HL
    obtain ⟨v, hv⟩ : ∃ v, largeU x.up = v := ⟨_, rfl⟩
    rw [hv] at HL
    have HL := Lib.hid HL
    have HV := Lib.hid hv
    clear hv hbx h30
    go_wp2_with fail
    refine (HL.out).mono ?_
    rintro e W3 ⟨rfl, hb⟩
    clear c0 c1 c2 c3 c4 c5 c6 c7 c8
    have F3 := Lib.hid (F2.out.keep hb)
    clear hb HL F2 e30
    cases v with
    | true =>
      go_wp2_with fail
      refine (lives14 _).mono ?_
      rintro e W9 ⟨rfl, hb⟩
      have FE := Lib.hid (bcall (H0.out.2.2.2.2.2.trans (F3.out.bw.mono H0.out.2.2.2.2.2.size)) (Nat.le_refl _) hb)
      clear hb
      go_wp2_with fail
      go_ret
      exact ⟨rfl, FE.out⟩
    | false =>
      have hsm := large_small HV.out
      have hu1 : x.g.n ≤ 3000 ∧ x.r.n ≤ 1100 := by
        have h1 : x.g.n = x.g.l.length := H0.out.2.1.g.sl.len
        have h2 : x.r.n = x.r.l.length := H0.out.2.1.r.sl.len
        unfold UpV.up at hsm
        dsimp only at hsm
        omega
      have HU := Lib.hid hu1
      clear hsm hu1
      have hmax : on ≤ maxLen := H0.out.1.sl.max
      have HLN := Lib.hid (show on = ol.length from H0.out.1.sl.len)
      go_wp2_with fail
      go_loopw [9] (fun iv wr => ∃ (i : Nat) (S : List Rt) (ref : Int), i ≤ on ∧ iv = .int .i64 i ∧ LvX V (fun _ => False) b 65000 65536 S ref (fun _ => True) wr ∧ S.length ≤ 30 * i ∧ (0 ≤ ref ∧ ref ≤ 30 * (i : Int))) (fun iv _ => on - (intOf iv).toNat)
      case atStart => exact ⟨0, [], 0, Nat.zero_le _, rfl, F3.out, Nat.le_refl _, by omega, by omega⟩
      case round =>
        obtain ⟨i, S, ref, hi, rfl, hlv, hSl, hrf⟩ := hrel
        obtain ⟨w2, rfl⟩ : ∃ w2 : World, w2 = wr := ⟨_, rfl⟩
        by_cases hlt : i < on
        · have hil : ((i : Int) < (on : Int)) = True := by simp; omega
          have hi0 : ((0 : Int) ≤ (i : Int)) = True := by simp
          have hw3 := wrapS hlt hmax
          obtain ⟨b0, o0, ea, hbb, hat⟩ := H0.out.1.sl.at hlt
          dsimp only at ea
          subst ea
          have hmem := getD_mem (M := ol) (i := i) (by rw [← HLN.out]; exact hlt)
          have hokV := H0.out.1.all _ hmem
          dsimp only at hat hmem hokV
          generalize ol.getD i default = y at *
          have HC := largeU_any (hokV.2.2.keep hlv.bw)
          unfold UpV.v at HC
          obtain ⟨bo, hbo⟩ : ∃ bo, largeU y.u.up = bo := ⟨_, rfl⟩
          rw [hbo] at HC
          have HC := Lib.hid HC
          have H1 := Lib.hid (And.intro hlv (And.intro hSl (And.intro hrf (And.intro hokV (And.intro hbo hat)))))
          have hat2 := op_keep hat hlv.bw
          have d2 := hat2 2 (by decide)
          have d3 := hat2 3 (by decide)
          have d4 := hat2 4 (by decide)
          have d5 := hat2 5 (by decide)
          have d6 := hat2 6 (by decide)
          have d7 := hat2 7 (by decide)
          have d8 := hat2 8 (by decide)
          have d9 := hat2 9 (by decide)
          have d10 := hat2 10 (by decide)
          simp only [ROp, List.getElem?_cons_zero, List.getElem?_cons_succ] at d2 d3 d4 d5 d6 d7 d8 d9 d10
          clear hbb hat hat2 hmem hokV hbo hlv hSl hrf
          go_wp2_with fail
          refine (HC.out).mono ?_
          rintro e w3 ⟨rfl, hb⟩
          have H2 := Lib.hid (And.intro (H1.out.1.keep hb) trivial)
          clear hb HC d2 d3 d4 d5 d6 d7 d8 d9 d10
          cases bo with
          | true =>
            go_wp2_with fail
            go_ret
            exact ⟨rfl, H0.out.2.2.2.2.2.trans (H2.out.1.bw.mono H0.out.2.2.2.2.2.size)⟩
          | false =>
            have d3 := op_keep H1.out.2.2.2.2.2 H2.out.1.bw 3 (by decide)
            simp only [ROp, List.getElem?_cons_zero, List.getElem?_cons_succ] at d3
            by_cases hr30 : 30 < y.u.r.n
            · have e31 : ((30 : Int) < (y.u.r.n : Int)) = True := by simp; omega
              clear hr30
              go_wp2_with fail
              go_ret
              exact ⟨rfl, H0.out.2.2.2.2.2.trans (H2.out.1.bw.mono H0.out.2.2.2.2.2.size)⟩
            · have e31 : ((30 : Int) < (y.u.r.n : Int)) = False := by simp; omega
              have HR := Lib.hid hr30
              clear hr30
              go_wp2_with fail
              clear d3
              refine wp_region_heldP (fun W => Below V.heap.size V W) (by kernel_rfl) ?_
              have hd3 := (Below.refl w3.heap.size w3).drew
              have H3 := Lib.hid (And.intro (H2.out.1.keep hd3) (bcall H2.out.1.bw (Nat.le_refl _) hd3))
              generalize w3.drew = w4 at *
              clear hd3
              have hsm := large_small H1.out.2.2.2.2.1
              have hgn : y.u.g.n = y.u.g.l.length := H1.out.2.2.2.1.2.2.g.sl.len
              have HA := lvx_any (r := y.r) H3.out.1 (x := y.u) (fun F hF => H1.out.2.2.2.1.2.2.holdL H3.out.1.bw F fun k hk => (hF k hk).1) ⟨by unfold UpV.up at hsm; dsimp only at hsm; omega, by have := HR.out; omega⟩ (by have := HR.out; have := H1.out.2.1; have := H30.out; omega) (by have := HR.out; have := H1.out.2.2.1; have := H30.out; omega)
              unfold UpV.v at HA
              have HA := Lib.hid HA
              clear hsm hgn
              refine held_reads [0, 1, 2, 3, 4, 5, 6, 7, 8, 9, 10] (g := 1) rfl (by kernel_rfl) H3.out.2 (fun _ _ d _ _ h => by cases d <;> exact h) ?_
              simp only [pick, List.getD_cons_zero, List.getD_cons_succ]
              ((with_reducible refine wpRead_step (fun K hK => ?_)); go_simp; first | ((with_reducible refine hK _ ?_); clear hK K) | (apply Exists.intro; (with_reducible refine ⟨fun w' hw' => ?_, hK _ ?_⟩); (first | exact rfl | exact ⟨rfl, rfl⟩); clear hK K))
              ((with_reducible refine wpRead_step (fun K hK => ?_)); go_simp; first | ((with_reducible refine hK _ ?_); clear hK K) | (apply Exists.intro; (with_reducible refine ⟨fun w' hw' => ?_, hK _ ?_⟩); (first | exact rfl | exact ⟨rfl, rfl⟩); clear hK K))
              ((with_reducible refine wpRead_step (fun K hK => ?_)); go_simp; first | ((with_reducible refine hK _ ?_); clear hK K) | (apply Exists.intro; (with_reducible refine ⟨fun w' hw' => ?_, hK _ ?_⟩); (first | exact rfl | exact ⟨rfl, rfl⟩); clear hK K))
              ((with_reducible refine wpRead_step (fun K hK => ?_)); go_simp; first | ((with_reducible refine hK _ ?_); clear hK K) | (apply Exists.intro; (with_reducible refine ⟨fun w' hw' => ?_, hK _ ?_⟩); (first | exact rfl | exact ⟨rfl, rfl⟩); clear hK K))
              ((with_reducible refine wpRead_step (fun K hK => ?_)); go_simp; first | ((with_reducible refine hK _ ?_); clear hK K) | (apply Exists.intro; (with_reducible refine ⟨fun w' hw' => ?_, hK _ ?_⟩); (first | exact rfl | exact ⟨rfl, rfl⟩); clear hK K))
              ((with_reducible refine wpRead_step (fun K hK => ?_)); go_simp; first | ((with_reducible refine hK _ ?_); clear hK K) | (apply Exists.intro; (with_reducible refine ⟨fun w' hw' => ?_, hK _ ?_⟩); ((have f0 := (op_keep H1.out.2.2.2.2.2 hw') 1 (by decide); simp only [ROp, List.getElem?_cons_zero, List.getElem?_cons_succ] at f0; go_simp; first | exact rfl | exact ⟨rfl, rfl⟩)); clear hK K))
              ((with_reducible refine wpRead_step (fun K hK => ?_)); go_simp; first | ((with_reducible refine hK _ ?_); clear hK K) | (apply Exists.intro; (with_reducible refine ⟨fun w' hw' => ?_, hK _ ?_⟩); (first | exact rfl | exact ⟨rfl, rfl⟩); clear hK K))
              ((with_reducible refine wpRead_step (fun K hK => ?_)); go_simp; first | ((with_reducible refine hK _ ?_); clear hK K) | (apply Exists.intro; (with_reducible refine ⟨fun w' hw' => ?_, hK _ ?_⟩); (first | exact rfl | exact ⟨rfl, rfl⟩); clear hK K))
              ((with_reducible refine wpRead_step (fun K hK => ?_)); go_simp; first | ((with_reducible refine hK _ ?_); clear hK K) | (apply Exists.intro; (with_reducible refine ⟨fun w' hw' => ?_, hK _ ?_⟩); (first | exact rfl | exact ⟨rfl, rfl⟩); clear hK K))
              ((with_reducible refine wpRead_step (fun K hK => ?_)); go_simp; first | ((with_reducible refine hK _ ?_); clear hK K) | (apply Exists.intro; (with_reducible refine ⟨fun w' hw' => ?_, hK _ ?_⟩); (first | exact rfl | exact ⟨rfl, rfl⟩); clear hK K))
              with_reducible refine wpRead_yes ?_ ?_
              rotate_left
              rfl
              intro K hK
              refine read_load 42 _ rfl b0 (o0 + i * 11 + 2) #[.slice y.u.g.a y.u.g.n y.u.g.c, .slice y.u.r.a y.u.r.n y.u.r.c, .int .i64 y.u.a.o, .slice y.u.a.p.a y.u.a.p.n y.u.a.p.c, .int .u32 y.u.a.nx, .int .i64 y.u.a.md, .int .i64 y.u.a.pf, .slice y.u.a.c.a y.u.a.c.n y.u.a.c.c, .bool y.u.soft] rfl (fun w' hw' => at_rangeO (op_keep H1.out.2.2.2.2.2 hw')) Tryz.underlying42 rfl (by kernel_rfl) (hK _ ?_)
              clear hK K
              with_reducible refine wpRead_nil ?_
              refine held_one 11 (by kernel_rfl) ?_
              simp only [pick, List.getD_cons_zero, List.getD_cons_succ]
              go_wp2_with fail
              refine (HA.out).mono ?_
              rintro e w5 ⟨za, zn, zc, zz, rfl, S', ref', hst, hl', hr', -⟩
              have H4 := Lib.hid (And.intro hst (And.intro hl' hr'))
              clear hst hl' hr' HA
              go_wp2_with fail
              refine ⟨H4.out.1.bw, ?_⟩
              refine wpAnyH_done (by kernel_rfl) ?_ _
              go_wp2_with fail
              exact ⟨⟨i + 1, S', ref', hlt, by first | rw [hw3] | rw [Int.natCast_succ], H4.out.1, by have := H1.out.2.1; have := H4.out.2.1; have := HR.out; omega, by have := H4.out.2.2; omega, by have := H1.out.2.2.1; have := H4.out.2.2; have := HR.out; push_cast; omega⟩, by first | (rw [hw3]; exact mSucc hlt) | (rw [← Int.natCast_succ]; exact mSucc hlt)⟩
        · obtain rfl : on = i := by omega
          have hil : ((on : Int) < (on : Int)) = False := by simp
          have hS9 : S.length ≤ 900 := by have := H30.out; omega
          have hR9 : 0 ≤ ref ∧ ref ≤ 900 := by have := H30.out; omega
          have HPX := Lib.hid (lv_prefixes hlv.lvs (by omega))
          have G0 := Lib.hid (And.intro hlv (And.intro hS9 hR9))
          clear hlv hSl hrf hS9 hR9 hi
          go_wp2_with fail
          refine (HPX.out).mono ?_
          rintro e W4 ⟨v, L, rfl, ho, hp, hb, -⟩
          obtain ⟨⟨pa, pn, pc, pl⟩, rfl, hpl, hp1, hp2, -⟩ := Own_slok (ok := okT) ho (fun _ _ => trivial)
          dsimp only at hpl
          subst hpl
          have G1 := Lib.hid (And.intro ((G0.out.1.add hb (Q := fun V => SlOk RPk okT V ⟨pa, pn, pc, pl⟩) (fun w' hs he => hp1.same (fun hn a e hl => he _ hl fun hf => by have := hp2 hn a e; omega) fun _ _ _ => trivial)).imp (fun _ h => h.2)) (And.intro hp (And.intro (show pn = pl.length from hp1.sl.len) (show pl.length ≤ 900 from Nat.le_trans (pfx_len hp) G0.out.2.1))))
          have G2 := Lib.hid G0.out.2
          clear ho hp hb hp1 hp2 HPX G0
          have hmax2 : pn ≤ maxLen := by have := G1.out.2.2.1; have := G1.out.2.2.2; unfold maxLen; omega
          go_wp2_with fail
          go_loopw [11, 12] (fun wv iv wr => ∃ (i : Nat) (L : List (SlV RtV)), i ≤ pn ∧ iv = .int .i64 i ∧ OwnP RSl (PE W4.heap.size) wr W4.heap.size wv L ∧ L.map (fun s => s.l.map RtV.rt) = (pl.take i).map (routesR S) ∧ Below W4.heap.size W4 wr) (fun _ iv _ => pn - (intOf iv).toNat)
          case atStart => exact ⟨0, [], Nat.zero_le _, rfl, OwnP.nil, rfl, Below.refl _ _⟩
          case round =>
            obtain ⟨i, L, hi, rfl, hown, hmap, hb⟩ := hrel
            obtain ⟨w2, rfl⟩ : ∃ w2 : World, w2 = wr := ⟨_, rfl⟩
            by_cases hlt : i < pn
            · have hil : ((i : Int) < (pn : Int)) = True := by simp; omega
              have hi0 : ((0 : Int) ≤ (i : Int)) = True := by simp
              have hw3 := wrapS hlt hmax2
              have hlv := G1.out.1.keep hb
              obtain ⟨b0, o0, ea, hbb, hat⟩ := hlv.now.sl.at hlt
              dsimp only at ea
              subst ea
              have hmem := getD_mem (M := pl) (i := i) (by rw [← G1.out.2.2.1]; exact hlt)
              have htk := take_map_succ (routesR S) pl i (by rw [← G1.out.2.2.1]; exact hlt)
              obtain ⟨k, hk⟩ : ∃ k, pl.getD i default = k := ⟨_, rfl⟩
              rw [hk] at hat hmem htk
              have hkk : k.1 < 4294967296 ∧ I64 k.2 := by
                obtain ⟨z, hz, rfl⟩ := (G1.out.2.1.is k).1 hmem
                exact (G1.out.1.kok z hz).pkR
              have d0 := hat 0 (by decide)
              have d1 := hat 1 (by decide)
              simp only [RPk, Nat.add_zero, List.getElem?_cons_zero, List.getElem?_cons_succ] at d0 d1
              have HR := lvx_routes hlv (by have := G2.out; omega) hkk
              unfold pfx at HR
              have HR := Lib.hid HR
              have hLl : L.length = i := by
                have h1 := congrArg List.length hmap
                rw [List.length_map, List.length_map, List.length_take] at h1
                have := G1.out.2.2.1
                omega
              have K0 := Lib.hid (And.intro hown (And.intro hmap (And.intro hb (And.intro htk hLl))))
              clear hlv hbb hat hmem hkk hk hown hmap hb htk hLl
              go_wp2_with fail
              refine (HR.out).mono ?_
              rintro e w3 ⟨s, rfl, hs1, hs2, hb3⟩
              have K1 := Lib.hid (And.intro (K0.out.1.below hb3) (And.intro (bcall K0.out.2.2.1 (Nat.le_refl _) hb3) (And.intro hs1 (And.intro hs2 (K0.out.2.2.1.size)))))
              have hvl : ∀ g, u11.ownBlock = some g → g < w2.heap.size := fun g hg => World.ownsRow.lt K0.out.1.own g hg |>.2
              have HVL := Lib.hid hvl
              clear hs1 hs2 hb3 HR d0 d1 hvl
              go_wp2_with (at_builtin; refine halt ?_)
              refine Halted.go ?_
              have hbA := (Below.refl w3.heap.size w3).alloc (Nat.le_refl _) (.cells #[.slice s.a s.n s.c] 72)
              have hsA : HoldF (fun k => k < w2.heap.size) (w3.alloc (.cells #[.slice s.a s.n s.c] 72)) fun V => SlOk RRt RtOk V s := K1.out.2.2.2.1.below hbA
              refine Rep.append_listP TRSl rfl _ _ rfl rfl (K1.out.1.below hbA) rfl (Rep.sl_one (R := RSl) (y := s) (hnew _ _)) (fun h => by cases h) (fun y hy => by
                rw [List.mem_singleton] at hy
                subst hy
                exact pe_firm hsA K1.out.2.2.2.2 HVL.out) (by have h1 := K0.out.2.2.2.2; have h2 := G1.out.2.2.1; have h3 := G1.out.2.2.2; unfold maxLen; omega) (by have h1 := K0.out.2.2.2.2; have h2 := G1.out.2.2.1; have h3 := G1.out.2.2.2; omega) (Nat.le_trans K1.out.2.1.size hbA.size) ?_
              intro v' w' hown' hb'
              have K2 := Lib.hid (And.intro hown' (And.intro (show (L ++ [s]).map (fun s => s.l.map RtV.rt) = (pl.take (i + 1)).map (routesR S) from by rw [List.map_append, K0.out.2.1, K0.out.2.2.2.1, List.map_singleton, K1.out.2.2.1]) ((bcall K1.out.2.1 (Nat.le_refl _) hbA).trans hb')))
              clear hbA hsA hown' hb' K0 K1 HVL
              go_wp2_with fail
              exact ⟨⟨i + 1, L ++ [s], hlt, by first | rw [hw3] | rw [Int.natCast_succ], K2.out⟩, by first | (rw [hw3]; exact mSucc hlt) | (rw [← Int.natCast_succ]; exact mSucc hlt)⟩
            · obtain rfl : pn = i := by omega
              have hil : ((pn : Int) < (pn : Int)) = False := by simp
              obtain ⟨⟨wa, wn, wc, wl⟩, rfl, hwl, hwh⟩ := was_hold hown
              dsimp only at hwl hwh ⊢
              subst hwl
              rw [show pl.take pn = pl from List.take_of_length_le (by rw [G1.out.2.2.1]; exact Nat.le_refl _)] at hmap
              have hwn : wn = pn := by
                have h1 : wn = wl.length := hwh.now.sl.len
                have h2 := congrArg List.length hmap
                rw [List.length_map, List.length_map] at h2
                have := G1.out.2.2.1
                omega
              subst hwn
              have G3 := Lib.hid (And.intro (G1.out.1.add hb hwh) hmap)
              have hbx := (G3.out.1.bw.block _ (lt_of_blk H0.out.2.2.1)).trans H0.out.2.2.1
              obtain ⟨c0, c1, c2, c3, c4, c5, c6, c7, c8⟩ := BxU.cells (x := x) hbx
              have HA := lvx_any (r := r) G3.out.1 (fun F hF => H0.out.2.1.holdL G3.out.1.bw F fun k hk => (hF k hk).1) ⟨HU.out.1, by have := HU.out.2; omega⟩ (by have := HU.out.2; have := G2.out.1; omega) (by have := HU.out.2; have := G2.out.2; omega)
              unfold UpV.v at HA
              have HA := Lib.hid HA
              clear hbx hwh hb hown hmap hi
              go_wp2_with fail
              refine (HA.out).mono ?_
              rintro e W6 ⟨za, zn, zc, zz, rfl, S2, ref2, hst, hl2, -, hfil⟩
              clear c0 c1 c2 c3 c4 c5 c6 c7 c8
              have G4 := Lib.hid (And.intro hst (And.intro (show S2.length ≤ 4000000 by have := HU.out.2; have := G2.out.1; omega) hfil))
              clear hst hl2 hfil HA
              go_wp2_with fail
              go_loopw [13] (fun iv wr => ∃ i : Nat, i ≤ wn ∧ iv = .int .i64 i ∧ Below W6.heap.size W6 wr) (fun iv _ => wn - (intOf iv).toNat)
              case atStart => exact ⟨0, Nat.zero_le _, rfl, Below.refl _ _⟩
              case round =>
                obtain ⟨i, hi, rfl, hb⟩ := hrel
                obtain ⟨w2, rfl⟩ : ∃ w2 : World, w2 = wr := ⟨_, rfl⟩
                by_cases hlt : i < wn
                · have hil : ((i : Int) < (wn : Int)) = True := by simp; omega
                  have hi0 : ((0 : Int) ≤ (i : Int)) = True := by simp
                  have hw3 := wrapS hlt hmax2
                  have hlv := G4.out.1.keep hb
                  obtain ⟨b0, o0, ea, -, -⟩ := hlv.now.1.sl.at hlt
                  obtain ⟨b1, o1, eb, -, -⟩ := hlv.now.2.sl.at hlt
                  dsimp only at ea eb
                  subst ea eb
                  have hil2 : i < pl.length := by rw [← G1.out.2.2.1]; exact hlt
                  have hmem := getD_mem (M := pl) (i := i) hil2
                  have hlw : i < wl.length := by have h2 : wn = wl.length := hlv.now.2.sl.len; omega
                  have hmw := getD_mem (M := wl) (i := i) hlw
                  have hx1 := map_getD_eq (f := fun s : SlV RtV => s.l.map RtV.rt) (g := routesR S) G3.out.2 hlw hil2
                  have hpA := fun (W : World) (h : LvX V (fun _ => False) b 65000 65536 S2 ref2 (fun V => SlOk RPk okT V ⟨some ⟨b0, o0, none⟩, wn, pc, pl⟩ ∧ SlOk RSl (fun V s => SlOk RRt RtOk V s) V ⟨some ⟨b1, o1, none⟩, wn, wc, wl⟩) W) => sl_at h.now.1.sl hlt
                  have hwA := fun (W : World) (h : LvX V (fun _ => False) b 65000 65536 S2 ref2 (fun V => SlOk RPk okT V ⟨some ⟨b0, o0, none⟩, wn, pc, pl⟩ ∧ SlOk RSl (fun V s => SlOk RRt RtOk V s) V ⟨some ⟨b1, o1, none⟩, wn, wc, wl⟩) W) => sl_at h.now.2.sl hlt
                  have hwO := fun (W : World) (h : LvX V (fun _ => False) b 65000 65536 S2 ref2 (fun V => SlOk RPk okT V ⟨some ⟨b0, o0, none⟩, wn, pc, pl⟩ ∧ SlOk RSl (fun V s => SlOk RRt RtOk V s) V ⟨some ⟨b1, o1, none⟩, wn, wc, wl⟩) W) => h.now.2.all _ hmw
                  try dsimp only at hwO
                  obtain ⟨k, hk⟩ : ∃ k, pl.getD i default = k := ⟨_, rfl⟩
                  obtain ⟨s, hs⟩ : ∃ s, wl.getD i default = s := ⟨_, rfl⟩
                  rw [hk] at hpA hmem hx1
                  rw [hs] at hwA hwO hx1
                  have hkk : k.1 < 4294967296 ∧ I64 k.2 := by
                    obtain ⟨z, hz, rfl⟩ := (G1.out.2.1.is k).1 hmem
                    exact (G1.out.1.kok z hz).pkR
                  have hd := (Below.refl w2.heap.size w2).drew
                  have HX := Lib.hid (And.intro hpA (And.intro hwA (And.intro hwO (And.intro hx1 hkk))))
                  have K0 := Lib.hid (And.intro (hlv.keep hd) (bcall hb (Nat.le_refl _) hd))
                  clear hpA hwA hwO hmem hmw hlw hil2 hk hs hx1 hkk hlv hb hd
                  go_wp2_with fail
                  refine wp_region_heldP (LvX V (fun _ => False) b 65000 65536 S2 ref2 (fun V => SlOk RPk okT V ⟨some ⟨b0, o0, none⟩, wn, pc, pl⟩ ∧ SlOk RSl (fun V s => SlOk RRt RtOk V s) V ⟨some ⟨b1, o1, none⟩, wn, wc, wl⟩)) (by kernel_rfl) ?_
                  generalize w2.drew = w3 at *
                  refine held_reads [0, 1, 2, 3, 4, 6, 8, 9, 10, 11, 12] (g := 5) rfl (by kernel_rfl) K0.out.1 (fun _ _ d _ _ h => by cases d <;> exact h) ?_
                  simp only [pick, List.getD_cons_zero, List.getD_cons_succ]
                  ((with_reducible refine wpRead_step (fun K hK => ?_)); go_simp; first | ((with_reducible refine hK _ ?_); clear hK K) | (apply Exists.intro; (with_reducible refine ⟨fun w' hw' => ?_, hK _ ?_⟩); (first | exact rfl | exact ⟨rfl, rfl⟩); clear hK K))
                  ((with_reducible refine wpRead_step (fun K hK => ?_)); go_simp; first | ((with_reducible refine hK _ ?_); clear hK K) | (apply Exists.intro; (with_reducible refine ⟨fun w' hw' => ?_, hK _ ?_⟩); (first | exact rfl | exact ⟨rfl, rfl⟩); clear hK K))
                  ((with_reducible refine wpRead_step (fun K hK => ?_)); go_simp; first | ((with_reducible refine hK _ ?_); clear hK K) | (apply Exists.intro; (with_reducible refine ⟨fun w' hw' => ?_, hK _ ?_⟩); (first | exact rfl | exact ⟨rfl, rfl⟩); clear hK K))
                  ((with_reducible refine wpRead_step (fun K hK => ?_)); go_simp; first | ((with_reducible refine hK _ ?_); clear hK K) | (apply Exists.intro; (with_reducible refine ⟨fun w' hw' => ?_, hK _ ?_⟩); (first | exact rfl | exact ⟨rfl, rfl⟩); clear hK K))
                  with_reducible refine wpRead_yes ?_ ?_
                  rotate_left
                  rfl
                  intro K hK
                  refine read_load 58 _ rfl b0 (o0 + i * 2) #[.int .u32 (k.1 : Int), .int .i64 k.2] rfl (fun w' hw' => at_rangeP (HX.out.1 w' hw')) Tryz.underlying58 rfl (by kernel_rfl) (hK _ ?_)
                  clear hK K
                  ((with_reducible refine wpRead_step (fun K hK => ?_)); go_simp; first | ((with_reducible refine hK _ ?_); clear hK K) | (apply Exists.intro; (with_reducible refine ⟨fun w' hw' => ?_, hK _ ?_⟩); (first | exact rfl | exact ⟨rfl, rfl⟩); clear hK K))
                  ((with_reducible refine wpRead_step (fun K hK => ?_)); go_simp; first | ((with_reducible refine hK _ ?_); clear hK K) | (apply Exists.intro; (with_reducible refine ⟨fun w' hw' => ?_, hK _ ?_⟩); (first | exact rfl | exact ⟨rfl, rfl⟩); clear hK K))
                  ((with_reducible refine wpRead_step (fun K hK => ?_)); go_simp; first | ((with_reducible refine hK _ ?_); clear hK K) | (apply Exists.intro; (with_reducible refine ⟨fun w' hw' => ?_, hK _ ?_⟩); (first | exact rfl | exact ⟨rfl, rfl⟩); clear hK K))
                  ((with_reducible refine wpRead_step (fun K hK => ?_)); go_simp; first | ((with_reducible refine hK _ ?_); clear hK K) | (apply Exists.intro; (with_reducible refine ⟨fun w' hw' => ?_, hK _ ?_⟩); (first | exact rfl | exact ⟨rfl, rfl⟩); clear hK K))
                  ((with_reducible refine wpRead_step (fun K hK => ?_)); go_simp; first | ((with_reducible refine hK _ ?_); clear hK K) | (apply Exists.intro; (with_reducible refine ⟨fun w' hw' => ?_, hK _ ?_⟩); ((have f0 := (HX.out.2.1 w' hw') 0 (by decide); simp only [RSl, Nat.add_zero, Nat.mul_one, List.getElem?_cons_zero] at f0; go_simp; first | exact rfl | exact ⟨rfl, rfl⟩)); clear hK K))
                  ((with_reducible refine wpRead_step (fun K hK => ?_)); go_simp; first | ((with_reducible refine hK _ ?_); clear hK K) | (apply Exists.intro; (with_reducible refine ⟨fun w' hw' => ?_, hK _ ?_⟩); (first | exact rfl | exact ⟨rfl, rfl⟩); clear hK K))
                  with_reducible refine wpRead_nil ?_
                  have HR := lvx_routes K0.out.1 G4.out.2.1 HX.out.2.2.2.2
                  unfold pfx at HR
                  have HR := Lib.hid HR
                  refine held_one 5 (by kernel_rfl) ?_
                  simp only [pick, List.getD_cons_zero, List.getD_cons_succ]
                  go_wp2_with fail
                  refine (HR.out).mono ?_
                  rintro e w4 ⟨⟨sa, sn, sc, sl⟩, rfl, hs1, hs2, hb⟩
                  dsimp only at hs1 hs2 ⊢
                  have hss := hs2.now
                  have hsn : sn ≤ 4000000 := by
                    have h1 : sn = sl.length := hss.sl.len
                    have h2 := congrArg List.length hs1
                    rw [List.length_map] at h2
                    have h3 := routes_len S2 k
                    have h4 := G4.out.2.1
                    omega
                  have HW1 := Lib.hid (without_any hss hsn r)
                  have K1 := Lib.hid (And.intro (K0.out.1.keep hb) (And.intro (bcall K0.out.2 (Nat.le_refl _) hb) (And.intro hs1 hss)))
                  clear hs1 hs2 hb hss hsn HR K0
                  go_wp2_with fail
                  refine ⟨K1.out.1, ?_⟩
                  refine held_one 7 (by kernel_rfl) ?_
                  simp only [pick, List.getD_cons_zero, List.getD_cons_succ]
                  go_wp2_with fail
                  refine (HW1.out).mono ?_
                  rintro e w5 ⟨v, rfl, ho, hb⟩
                  have hk5 : ∀ z ∈ sl, RtOk w5 z := fun z hz => (K1.out.2.2.2.all z hz).keep hb
                  obtain ⟨⟨ta, tn, tc, tl⟩, rfl, htl, ht1, -, -⟩ := Own_slok (ok := RtOk) ho (fun z hz => hk5 z (List.mem_filter.1 hz).1)
                  dsimp only at htl
                  subst htl
                  have hwo := HX.out.2.2.1 w5 (K1.out.1.keep hb)
                  have hwn2 : s.n ≤ 4000000 := by
                    have h1 : s.n = s.l.length := hwo.sl.len
                    have h2 := congrArg List.length HX.out.2.2.2.1
                    rw [List.length_map] at h2
                    have h3 := routes_len S k
                    have h4 := G2.out.1
                    omega
                  have HW2 := Lib.hid (without_any (L := s.l) hwo hwn2 r)
                  have K2 := Lib.hid (And.intro (K1.out.1.keep hb) (And.intro (bcall K1.out.2.1 (Nat.le_refl _) hb) ht1))
                  clear ho hb hk5 ht1 hwo hwn2 HW1
                  go_wp2_with fail
                  refine ⟨K2.out.1, ?_⟩
                  refine held_one 13 (by kernel_rfl) ?_
                  simp only [pick, List.getD_cons_zero, List.getD_cons_succ]
                  go_wp2_with fail
                  refine (HW2.out).mono ?_
                  rintro e w6 ⟨v, rfl, ho, hb⟩
                  have hwo := HX.out.2.2.1 w6 (K2.out.1.keep hb)
                  obtain ⟨⟨ua, un, uc, ul⟩, rfl, hul, hu1, -, -⟩ := Own_slok (ok := RtOk) ho (fun z hz => hwo.all z (List.mem_filter.1 hz).1)
                  dsimp only at hul
                  subst hul
                  have HS := srsame_any (K2.out.2.2.keep hb fun _ _ h => h.keep hb) hu1
                  rw [filter_rt, filter_rt, K1.out.2.2.1, HX.out.2.2.2.1, G4.out.2.2 k, decide_eq_true rfl] at HS
                  have HS := Lib.hid HS
                  have K3 := Lib.hid (And.intro (K2.out.1.keep hb) (bcall K2.out.2.1 (Nat.le_refl _) hb))
                  clear ho hb hwo hu1 HW2 K1 K2
                  go_wp2_with fail
                  refine ⟨K3.out.1, ?_⟩
                  refine held_one 14 (by kernel_rfl) ?_
                  simp only [pick, List.getD_cons_zero, List.getD_cons_succ]
                  go_wp2_with fail
                  refine (HS.out).mono ?_
                  rintro e w7 ⟨rfl, hb⟩
                  have K4 := Lib.hid (And.intro (K3.out.1.keep hb) (bcall K3.out.2 (Nat.le_refl _) hb))
                  clear hb HS K3
                  go_wp2_with fail
                  refine ⟨K4.out.1, ?_⟩
                  refine held_reads [15] (g := 0) rfl (by kernel_rfl) K4.out.1 (fun _ _ d _ _ h => by cases d <;> exact h) ?_
                  simp only [pick, List.getD_cons_zero, List.getD_cons_succ]
                  ((with_reducible refine wpRead_step (fun K hK => ?_)); go_simp; first | ((with_reducible refine hK _ ?_); clear hK K) | (apply Exists.intro; (with_reducible refine ⟨fun w' hw' => ?_, hK _ ?_⟩); (first | exact rfl | exact ⟨rfl, rfl⟩); clear hK K))
                  with_reducible refine wpRead_nil ?_
                  refine wpAnyH_done (by kernel_rfl) ?_ _
                  go_wp2_with fail
                  exact ⟨⟨i + 1, hlt, by first | rw [hw3] | rw [Int.natCast_succ], K4.out.2⟩, by first | (rw [hw3]; exact mSucc hlt) | (rw [← Int.natCast_succ]; exact mSucc hlt)⟩
                · obtain rfl : wn = i := by omega
                  have hil : ((wn : Int) < (wn : Int)) = False := by simp
                  have FE := Lib.hid (bcall G4.out.1.bw (Nat.le_refl _) hb)
                  clear hb hi
                  go_wp2_with fail
                  go_ret
                  exact ⟨rfl, H0.out.2.2.2.2.2.trans (FE.out.mono H0.out.2.2.2.2.2.size)⟩
end Go.Proofs.YtadoflcomienoaaGreat

