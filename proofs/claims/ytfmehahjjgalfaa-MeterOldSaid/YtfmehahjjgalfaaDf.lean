/- Delete, Expire, Clear. -/
import Derived.Test.YtfmehahjjgalfaaDe
namespace Go.Proofs.Ytfmehahjjgalfaa
open Go.RowKit
open Go.ChangeMaps (setBlock)

theorem wrapS {i n : Nat} (h : i < n) (hn : n ≤ maxLen) : wrap64 ((i : Int) + 1) = ((i + 1 : Nat) : Int) := by unfold maxLen at hn; unfold wrap64; omega
theorem mSucc {i n : Nat} (h : i < n) : n - (intOf (.int .i64 ((i + 1 : Nat) : Int))).toNat < n - (intOf (.int .i64 (i : Int))).toNat := by show n - ((i + 1 : Nat) : Int).toNat < n - (i : Int).toNat; omega
theorem TabAt.okk {w : World} {t bm : Nat} {L : List Ov} (H : TabAt w t bm L) {o : Ov} (ho : o ∈ L) : PN.ok o.key := by
  obtain ⟨⟨clk, es, k1, k2, k3⟩, hord⟩ := H
  have h1 := k3.get o.key
  rw [Kl.look_of k3.nd ho] at h1
  obtain ⟨e, he, h2, -⟩ := MR.mem_of_get? h1
  rw [← h2]
  exact k2.ok e he
theorem setBlock_block {w : World} {b k : Nat} {O : Obj} (h : k ≠ b) : (setBlock w b O).heap[k]? = w.heap[k]? := setBlock_other h
structure TDel (w w' : World) (t bm : Nat) (L : List Ov) (k : PK) : Prop where
  tab : TabAt w' t bm (L.filter fun x => decide (x.key ≠ k))
  but : But w w' [bm]
theorem tdel_nil (k : PK) (w : World) : Calls Try.prog 34 #[.pointer none, pfx k.1 k.2] w fun e w' => e = .returned (.bool false) ∧ Below w.heap.size w w' := by
  have hal := (Below.refl w.heap.size w).alloc (Nat.le_refl _) (.cells #[.int .u32 (k.1 : Int), .int .i64 k.2] 58)
  have hps : PfS w.heap.size k (w.alloc (.cells #[.int .u32 (k.1 : Int), .int .i64 k.2] 58)) := hnew _ _
  have HB := Lib.hid hal
  obtain ⟨z0, z1⟩ := hps.cells
  have HG := Lib.hid (tget_nil k)
  clear hal hps
  unfold pfx at HG ⊢
  go_enter Try.func34, Try.ntmps34
  go_wp2_with fail
  refine (HG.out _).mono ?_
  rintro e W1 ⟨rfl, hb⟩
  rw [show ovZ.v = .agg #[.int .i64 0, .int .u32 0, .int .i64 0, .int .i64 0, .int .i64 0] from rfl]
  have HB2 := Lib.hid ((bcall HB.out (Nat.le_refl _) hb).trans (((Below.refl _ W1).alloc (Nat.le_refl _) (.cells #[.int .i64 0, .int .u32 0, .int .i64 0, .int .i64 0, .int .i64 0] 62)).mono (bcall HB.out (Nat.le_refl _) hb).size))
  clear hb z0 z1
  go_wp2_with fail
  go_ret
  exact ⟨rfl, HB2.out⟩
set_option maxRecDepth 100000 in
theorem tdel_any {w : World} {t bm : Nat} {L : List Ov} (H : TabAt w t bm L) {k : PK} (hk : PN.ok k) : Calls Try.prog 34 #[.pointer (some ⟨t, 0, none⟩), pfx k.1 k.2] w fun e w' => e = .returned (.bool (hasO L k)) ∧ TDel w w' t bm L k := by
  have hal := (Below.refl w.heap.size w).alloc (Nat.le_refl _) (.cells #[.int .u32 (k.1 : Int), .int .i64 k.2] 58)
  have hps : PfS w.heap.size k (w.alloc (.cells #[.int .u32 (k.1 : Int), .int .i64 k.2] 58)) := hnew _ _
  have F := Lib.hid (And.intro hal (And.intro hps (H.keep hal)))
  obtain ⟨z0, z1⟩ := hps.cells
  have HG := Lib.hid (tget_any (H.keep hal) hk)
  have HK := Lib.hid hk
  clear hal hps H
  unfold pfx at HG
  unfold pfx
  generalize getO L k = g at *
  obtain ⟨hs, hhs⟩ : ∃ hs, hasO L k = hs := ⟨_, rfl⟩
  rw [hhs] at HG ⊢
  have HS := Lib.hid hhs
  clear hhs
  go_enter Try.func34, Try.ntmps34
  go_wp2_with fail
  refine HG.out.mono ?_
  rintro e W1 ⟨rfl, hb⟩
  unfold Ov.v
  have hal := (Below.refl W1.heap.size W1).alloc (Nat.le_refl _) (.cells #[.int .i64 g.r, .int .u32 (g.ad : Int), .int .i64 g.ln, .int .i64 g.id, .int .i64 g.till] 62)
  have hbb := bcall hb (Nat.le_refl _) hal
  have F2 := Lib.hid (And.intro (bcall F.out.1 (Nat.le_refl _) hbb) (And.intro (F.out.2.1.on (hbb.block _ (lt_of_blk F.out.2.1))) (F.out.2.2.keep hbb)))
  clear hb hal hbb HG F z0 z1
  cases hs with
  | false =>
    go_wp2_with fail
    go_ret
    refine ⟨rfl, ?_, But.of_below F2.out.1 _⟩
    rw [del_none HS.out]
    exact F2.out.2.2
  | true =>
    go_wp2_with fail
    generalize W1.alloc (.cells #[.int .i64 g.r, .int .u32 (g.ad : Int), .int .i64 g.ln, .int .i64 g.id, .int .i64 g.till] 62) = W2 at *
    obtain ⟨q, hq⟩ : ∃ q, w.heap.size = q := ⟨_, rfl⟩
    have F3 := Lib.hid (show Below w.heap.size w W2 ∧ PfS q k W2 ∧ TabAt W2 t bm L from hq ▸ F2.out)
    rw [hq]
    clear hq F2
    have c0 := F3.out.2.2.c0
    obtain ⟨z0, z1⟩ := F3.out.2.1.cells
    obtain ⟨O, hup, htab⟩ := (F3.out.2.2.on (w' := W2.drew) rfl rfl).delete HK.out 58 0
    have F4 := Lib.hid (And.intro htab ((But.of_below F3.out.1 [bm]).drew.setBlock (b := bm) (.inr (by simp)) O))
    clear htab
    refine wp_region_pieces (by kernel_rfl) ?_
    refine wpAny_seg (fun w' => w' = W2.drew) [0, 1, 2, 3, 4] (g := 1) rfl (by kernel_rfl) rfl ?_
    simp only [pick, List.getD_cons_zero, List.getD_cons_succ]
    iterate 5 ((with_reducible refine wpQuiet_step (fun K hK => ?_)); go_simp; first | ((with_reducible refine hK _ ?_); clear hK K) | (apply Exists.intro; (with_reducible refine ⟨fun w' hw' => ?_, hK _ ?_⟩); (subst hw'; go_simp; first | exact rfl | exact ⟨rfl, rfl⟩); clear hK K))
    refine wpQuiet_nil ?_
    rintro _ rfl
    refine wpAny_one 5 (by kernel_rfl) ?_
    simp only [pick, List.getD_cons_zero, List.getD_cons_succ]
    go_wp2_with fail
    refine wpAny_done (by kernel_rfl) ?_ _
    go_wp2_with fail
    go_ret
    exact ⟨rfl, F4.out.1, F4.out.2⟩
def delAll (L G : List Ov) : List Ov := G.foldl (fun L o => L.filter fun x => decide (x.key ≠ o.key)) L
theorem delAll_succ {L G : List Ov} {i : Nat} (hi : i < G.length) : delAll L (G.take (i + 1)) = (delAll L (G.take i)).filter fun x => decide (x.key ≠ (G.getD i default).key) := by
  unfold delAll
  rw [List.take_succ_eq_append_getElem hi, List.foldl_append]
  simp [List.getD_eq_getElem?_getD, hi]
theorem delAll_is : ∀ (G L : List Ov), delAll L G = L.filter fun x => decide (x.key ∉ G.map Ov.key)
  | [], L => by show L = _; symm; rw [List.filter_eq_self]; intro x _; simp
  | o :: G, L => by
    show delAll (L.filter fun x => decide (x.key ≠ o.key)) G = _
    rw [delAll_is G, List.filter_filter]
    refine List.filter_congr fun x _ => ?_
    simp [Bool.and_comm]
theorem delAll_filter {L : List Ov} (h : Ord L) (p : Ov → Bool) : delAll L (L.filter p) = L.filter fun x => !p x := by
  rw [delAll_is]
  refine List.filter_congr fun x hx => ?_
  cases hp : p x with
  | true =>
    have : x.key ∈ (L.filter p).map Ov.key := List.mem_map.2 ⟨x, List.mem_filter.2 ⟨hx, hp⟩, rfl⟩
    simp [this]
  | false =>
    have : x.key ∉ (L.filter p).map Ov.key := by
      rintro hm
      obtain ⟨y, hy, e⟩ := List.mem_map.1 hm
      obtain ⟨hy1, hy2⟩ := List.mem_filter.1 hy
      rw [Kl.inj_on h.keys hy1 hx e, hp] at hy2
      cases hy2
    simp [this]
theorem delAll_mem {L G : List Ov} {i : Nat} {x : Ov} (_hL : Ord L) (hG : ∀ y ∈ G, y ∈ L) (_hn : (G.map Ov.key).Nodup) (hi : i < G.length) (hx : x = G.getD i default) : x ∈ L := by
  rw [hx]; exact hG _ (getD_mem hi)
def tillP (now : Int) (o : Ov) : Bool := decide (o.till < now)
structure TExp (w w' : World) (t bm : Nat) (L : List Ov) (now : Int) (v : Value) : Prop where
  own : ROv.Own w' w.heap.size v (L.filter (tillP now))
  tab : TabAt w' t bm (L.filter fun x => !tillP now x)
  but : But w w' [bm]
theorem texp_nil (now : Int) (w : World) : Calls Try.prog 37 #[.pointer none, .int .i64 now] w fun e w' => e = .returned (.slice none 0 0) ∧ Below w.heap.size w w' := by
  have HB := Lib.hid ((Below.refl w.heap.size w).alloc (Nat.le_refl _) (.cells #[.int .i64 now] 3))
  go_enter Try.func37, Try.ntmps37
  go_wp2_with fail
  refine (some_nil _ _).mono ?_
  rintro e W1 ⟨rfl, hb⟩
  have HB2 := Lib.hid (bcall HB.out (Nat.le_refl _) hb)
  clear hb
  go_wp2_with fail
  go_loopw [13] (fun iv wr => iv = .int .i64 0 ∧ wr = W1) (fun _ _ => 0)
  case atStart => exact ⟨rfl, rfl⟩
  case round =>
    obtain ⟨rfl, rfl⟩ := hrel
    go_wp2_with fail
    go_ret
    exact ⟨rfl, HB2.out⟩
set_option maxRecDepth 100000 in
set_option maxHeartbeats 2000000 in
theorem texp_any {w : World} {t bm : Nat} {L : List Ov} (H : TabAt w t bm L) (hlen : L.length ≤ 4611686) (now : Int) : Calls Try.prog 37 #[.pointer (some ⟨t, 0, none⟩), .int .i64 now] w fun e w' => ∃ v, e = .returned v ∧ TExp w w' t bm L now v := by
  have hal := (Below.refl w.heap.size w).alloc (Nat.le_refl _) (.cells #[.int .i64 now] 3)
  have hnb : (w.alloc (.cells #[.int .i64 now] 3)).cell? ⟨w.heap.size, 0, none⟩ = some (.int .i64 now) := cell_of (hnew _ _) rfl
  have hpk : Picks (w.alloc (.cells #[.int .i64 now] 3)) 72 #[.pointer (some ⟨w.heap.size, 0, none⟩)] (tillP now) := expire_picks hnb (by simp)
  have HS := Lib.hid (some_till (H.keep hal) hlen hpk)
  have F := Lib.hid (And.intro hal (H.keep hal))
  have HLT := Lib.hid H.lt
  clear hal hnb hpk H
  go_enter Try.func37, Try.ntmps37
  go_wp2_with fail
  refine HS.out.mono ?_
  rintro e W1 ⟨v, rfl, hown, hb⟩
  obtain ⟨a1, c1, rfl, hsl, -⟩ := hown.sl0
  have hfar : ∀ b o, a1 = some ⟨b, o, none⟩ → w.heap.size ≤ b := fun b o e => by
    rcases hown.cases with ⟨h1, -⟩ | ⟨g, cap, h1, hg, -⟩
    · injection h1 with h1; rw [h1] at e; cases e
    · injection h1 with h1; rw [h1] at e; injection e with e; injection e with e1; subst e1
      rw [show ∀ o, (w.alloc o).heap.size = w.heap.size + 1 from fun o => by simp] at hg
      omega
  obtain ⟨G, hG⟩ : ∃ G, L.filter (tillP now) = G := ⟨_, rfl⟩
  have HGE := Lib.hid hG
  rw [hG] at hown hsl ⊢
  obtain ⟨n, hn⟩ : ∃ n, G.length = n := ⟨_, rfl⟩
  have HN := Lib.hid hn
  rw [hn] at hown hsl ⊢
  have F2 := Lib.hid (And.intro (bcall F.out.1 (Nat.le_refl _) hb) (And.intro (F.out.2.keep hb) (And.intro (hown.mono (by simp) : ROv.Own W1 w.heap.size _ G) (And.intro hsl hfar))))
  have hmax : n ≤ maxLen := hsl.max
  clear hown hb hsl hfar hn HS F hG
  go_wp2_with fail
  go_loopw [13] (fun iv wr => ∃ i : Nat, i ≤ n ∧ iv = .int .i64 i ∧ TabAt wr t bm (delAll L (G.take i)) ∧ But W1 wr [bm]) (fun iv _ => n - (intOf iv).toNat)
  case atStart => exact ⟨0, Nat.zero_le _, rfl, F2.out.2.1, But.refl _ _⟩
  case round =>
    obtain ⟨i, hi, rfl, htab, hbt⟩ := hrel
    obtain ⟨w2, rfl⟩ : ∃ w2 : World, w2 = wr := ⟨_, rfl⟩
    by_cases hlt : i < n
    · have hil : ((i : Int) < (n : Int)) = True := by simp; omega
      have hi0 : ((0 : Int) ≤ (i : Int)) = True := by simp
      have hw3 := wrapS hlt hmax
      have hgm : G.getD i default ∈ G := getD_mem (by rw [HN.out]; exact hlt)
      have hgl : G.getD i default ∈ L := by
        have := hgm
        rw [← HGE.out] at this
        rw [← HGE.out]
        exact (List.mem_filter.1 this).1
      have hok := F2.out.2.1.okk hgl
      have t1 := delAll_succ (L := L) (G := G) (i := i) (by rw [HN.out]; exact hlt)
      obtain ⟨b, o, hbo, hrow⟩ := F2.out.2.2.2.1.row (by omega)
      subst hbo
      have hbne : b ≠ bm := by have := F2.out.2.2.2.2 b o rfl; have := HLT.out.2.1; omega
      have hat := (hrow.keep (hbt.block b hrow.lt (by simp; exact hbne))).get i (by rw [HN.out]; exact hlt)
      generalize G.getD i default = x at *
      have y0 := hat 0 (by decide)
      have y1 := hat 1 (by decide)
      have y2 := hat 2 (by decide)
      have y3 := hat 3 (by decide)
      have y4 := hat 4 (by decide)
      simp only [ROv, Nat.add_zero, List.getElem?_cons_zero, List.getElem?_cons_succ] at y0 y1 y2 y3 y4
      have hal := (Below.refl w2.heap.size w2).alloc (Nat.le_refl _) (.cells #[.int .i64 x.r, .int .u32 (x.ad : Int), .int .i64 x.ln, .int .i64 x.id, .int .i64 x.till] 62)
      have hxs : OvS w2.heap.size x (w2.alloc (.cells #[.int .i64 x.r, .int .u32 (x.ad : Int), .int .i64 x.ln, .int .i64 x.id, .int .i64 x.till] 62)) := hnew _ _
      obtain ⟨x0, x1, x2, x3, x4⟩ := hxs.cells
      have htab2 := htab.keep hal
      have c0 := htab2.c0
      obtain ⟨O, hup0, htab3⟩ := (htab2.on (w' := (w2.alloc (.cells #[.int .i64 x.r, .int .u32 (x.ad : Int), .int .i64 x.ln, .int .i64 x.id, .int .i64 x.till] 62)).drew) rfl rfl).delete hok 58 0
      have hup : (Builtin.delete_ #[113, 58] 0 #[.map (some bm), .agg #[.int .u32 (x.ad : Int), .int .i64 x.ln]]).run Try.prog (w2.alloc (.cells #[.int .i64 x.r, .int .u32 (x.ad : Int), .int .i64 x.ln, .int .i64 x.id, .int .i64 x.till] 62)).drew = .ok (.tuple #[]) (setBlock (w2.alloc (.cells #[.int .i64 x.r, .int .u32 (x.ad : Int), .int .i64 x.ln, .int .i64 x.id, .int .i64 x.till] 62)).drew bm O) := hup0
      clear hup0
      rw [← t1] at htab3
      have F3 := Lib.hid (And.intro htab3 ((hbt.trans (But.of_below hal _)).drew.setBlock (b := bm) (.inr (by simp)) O))
      clear htab hbt hgm hgl hok t1 hrow hbne hat hal hxs htab2 htab3
      go_wp2_with fail
      clear y0 y1 y2 y3 y4
      generalize w2.alloc (.cells #[.int .i64 x.r, .int .u32 (x.ad : Int), .int .i64 x.ln, .int .i64 x.id, .int .i64 x.till] 62) = W5 at *
      generalize w2.heap.size = q2 at *
      refine wp_region_pieces (by kernel_rfl) ?_
      refine wpAny_seg (fun w' => w' = W5.drew) [0, 1, 2, 3, 4, 5, 6] (g := 1) rfl (by kernel_rfl) rfl ?_
      simp only [pick, List.getD_cons_zero, List.getD_cons_succ]
      iterate 7 ((with_reducible refine wpQuiet_step (fun K hK => ?_)); go_simp; first | ((with_reducible refine hK _ ?_); clear hK K) | (apply Exists.intro; (with_reducible refine ⟨fun w' hw' => ?_, hK _ ?_⟩); (subst hw'; go_simp; first | exact rfl | exact ⟨rfl, rfl⟩); clear hK K))
      refine wpQuiet_nil ?_
      rintro _ rfl
      refine wpAny_one 7 (by kernel_rfl) ?_
      simp only [pick, List.getD_cons_zero, List.getD_cons_succ]
      go_wp2_with fail
      refine wpAny_done (by kernel_rfl) ?_ _
      go_wp2_with fail
      exact ⟨⟨i + 1, hlt, by first | rw [hw3] | rw [Int.natCast_succ], F3.out⟩, by first | (rw [hw3]; exact mSucc hlt) | (rw [← Int.natCast_succ]; exact mSucc hlt)⟩
    · obtain rfl : n = i := by omega
      have hil : ((n : Int) < (n : Int)) = False := by simp
      have hord := F2.out.2.1.ord
      rw [List.take_of_length_le (by rw [HN.out]; exact Nat.le_refl _), ← HGE.out, delAll_filter hord] at htab
      have hbw : But w w2 [bm] := (But.of_below F2.out.1 [bm]).trans hbt
      have hown := Rep.Own.but F2.out.2.2.1 hbt (by simp; exact HLT.out.2.1)
      have F3 := Lib.hid (show TExp w w2 t bm L now (.slice a1 n c1) from ⟨by rw [HGE.out]; exact hown, htab, hbw⟩)
      clear htab hbt hord hbw hown
      go_wp2_with fail
      go_ret
      exact ⟨_, rfl, F3.out⟩
end Go.Proofs.Ytfmehahjjgalfaa
