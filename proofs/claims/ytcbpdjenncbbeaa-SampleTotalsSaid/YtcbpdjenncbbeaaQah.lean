/- Totals in memory; Over. -/
import Derived.Test.YtcbpdjenncbbeaaQag
import Derived.Test.YtcbpdjenncbbeaaQac
namespace Go.Proofs.Ytcbpdjenncbbeaa
open Go.RowKit

abbrev GE := (Nat × Nat) × Nat × Int
def gE (e : GE) : (Nat × Nat) × Option Addr := (e.1, some ⟨e.2.1, 0, none⟩)
def gC (e : GE) : KC := (e.1, e.2.2)
theorem insE_map {α β : Type} (f : α → β) (k : Nat × Nat) (v : α) : ∀ L : List ((Nat × Nat) × α), insE k (f v) (L.map fun e => (e.1, f e.2)) = (insE k v L).map fun e => (e.1, f e.2)
  | [] => rfl
  | e :: r => by
    simp only [List.map_cons, insE]
    split
    · rw [insE_map f k v r]; rfl
    · split <;> rfl
theorem insE_mem {α : Type} {k : Nat × Nat} {v : α} : ∀ {L : List ((Nat × Nat) × α)} {e : (Nat × Nat) × α}, e ∈ insE k v L → e = (k, v) ∨ e ∈ L
  | [], e, h => by simpa [insE] using h
  | d :: r, e, h => by
    unfold insE at h
    split at h
    · rcases List.mem_cons.1 h with h1 | h1
      · exact .inr (by rw [h1]; exact List.mem_cons_self)
      · rcases insE_mem h1 with h2 | h2
        · exact .inl h2
        · exact .inr (List.mem_cons_of_mem _ h2)
    · split at h
      · rcases List.mem_cons.1 h with h1 | h1
        · exact .inl h1
        · exact .inr (List.mem_cons_of_mem _ h1)
      · rcases List.mem_cons.1 h with h1 | h1
        · exact .inl h1
        · exact .inr h1
theorem insE_nodup {α β : Type} {k : Nat × Nat} {v : α} (g : (Nat × Nat) × α → β) : ∀ {L : List ((Nat × Nat) × α)}, (L.map g).Nodup → g (k, v) ∉ L.map g → ((insE k v L).map g).Nodup
  | [], _, _ => by simp [insE]
  | e :: r, h, hn => by
    rw [List.map_cons, List.nodup_cons] at h
    rw [List.map_cons, List.mem_cons, not_or] at hn
    unfold insE
    split
    · rw [List.map_cons, List.nodup_cons]
      refine ⟨fun hm => ?_, insE_nodup g h.2 hn.2⟩
      obtain ⟨d, hd, he⟩ := List.mem_map.1 hm
      rcases insE_mem hd with h1 | h1
      · rw [h1] at he; exact hn.1 he
      · exact h.1 (he ▸ List.mem_map.2 ⟨d, h1, rfl⟩)
    · split
      · rw [List.map_cons, List.nodup_cons]; exact ⟨hn.2, h.2⟩
      · rw [List.map_cons, List.nodup_cons, List.map_cons, List.mem_cons, not_or, List.nodup_cons]
        exact ⟨hn, h⟩
structure TotAt (w : World) (B x tb : Nat) (N : Nat → Nat → Option Nat) (G : List GE) (rest : Int) : Prop where
  tot : w.heap[x]? = some (.cells #[.pointer (some ⟨tb, 0, none⟩), .int .i64 rest] 63)
  tr : TrieEX w tb N (G.map gE)
  cnt : ∀ e ∈ G, w.heap[e.2.1]? = some (.cells #[.int .i64 e.2.2] 3)
  dis : (G.map (·.2.1)).Nodup
  low : B ≤ x ∧ (∀ k, foot tb N k → B ≤ k) ∧ ∀ e ∈ G, B ≤ e.2.1
  sep : ¬ foot tb N x ∧ ∀ e ∈ G, ¬ foot tb N e.2.1
theorem TotAt.keep {w w' : World} {B x tb : Nat} {N : Nat → Nat → Option Nat} {G : List GE} {rest : Int} (h : TotAt w B x tb N G rest) (hb : Below w.heap.size w w') : TotAt w' B x tb N G rest :=
  ⟨(hb.block _ (lt_of_blk h.tot)).trans h.tot, h.tr.below hb, fun e he => (hb.block _ (lt_of_blk (h.cnt e he))).trans (h.cnt e he), h.dis, h.low, h.sep⟩
theorem gE_ins (K : Nat × Nat) (b : Nat) (n : Int) (G : List GE) : insE K (some (⟨b, 0, none⟩ : Addr)) (G.map gE) = (insE K (b, n) G).map gE :=
  insE_map (fun v : Nat × Int => some (⟨v.1, 0, none⟩ : Addr)) K (b, n) G
theorem gC_ins (K : Nat × Nat) (b : Nat) (n : Int) (G : List GE) : insE K n (G.map gC) = (insE K (b, n) G).map gC :=
  insE_map (fun v : Nat × Int => v.2) K (b, n) G
theorem TotAt.set {W W' : World} {B x tb blk : Nat} {N N' : Nat → Nat → Option Nat} {G : List GE} {rest : Int} {K : Nat × Nat} (h : TotAt W B x tb N G rest) (hblk : W.heap[blk]? = some (.cells #[.int .i64 0] 3)) (hf : ¬ foot tb N blk) (hB : B ≤ blk) (hn : blk ∉ G.map (·.2.1)) (hm : Moved W W' (foot tb N) (foot tb N')) (ht : TrieEX W' tb N' (insE K (some ⟨blk, 0, none⟩) (G.map gE))) : TotAt W' B x tb N' (insE K (blk, 0) G) rest := by
  rw [gE_ins K blk 0] at ht
  have hlt := lt_of_blk h.tot
  have hfx : ¬ foot tb N' x := fun hk => (hm.foot _ hk).elim h.sep.1 (fun hk => by omega)
  refine ⟨(hm.same _ hlt h.sep.1).trans h.tot, ht, fun e he => ?_, insE_nodup _ h.dis hn, ⟨h.low.1, fun k hk => ?_, fun e he => ?_⟩, hfx, fun e he => ?_⟩
  · rcases insE_mem he with rfl | he
    · exact (hm.same _ (lt_of_blk hblk) hf).trans hblk
    · exact (hm.same _ (lt_of_blk (h.cnt e he)) (h.sep.2 e he)).trans (h.cnt e he)
  · rcases hm.foot _ hk with hk | hk
    · exact h.low.2.1 k hk
    · exact Nat.le_trans h.low.1 (Nat.le_trans (Nat.le_of_lt hlt) hk)
  · rcases insE_mem he with rfl | he
    · exact hB
    · exact h.low.2.2 e he
  · intro hk
    rcases insE_mem he with rfl | he
    · rcases hm.foot _ hk with hk | hk
      · exact hf hk
      · have := lt_of_blk hblk
        dsimp only at hk
        omega
    · rcases hm.foot _ hk with hk | hk
      · exact h.sep.2 e he hk
      · have := lt_of_blk (h.cnt e he)
        omega
theorem moved_below {B : Nat} {w W W' : World} {F F' : Nat → Prop} (h : Below B w W) (hm : Moved W W' F F') (hF : ∀ k, F k → B ≤ k) (hB : B ≤ W.heap.size) : Below B w W' :=
  ⟨hm.os.trans h.os, hm.tape.trans h.tape, hm.output.trans h.output, Nat.le_trans h.size hm.size, fun i hi => (hm.same i (by omega) (fun hk => by have := hF i hk; omega)).trans (h.block i hi)⟩
structure OvB (x tb q : Nat) (p : PKi) (W : World) : Prop where
  tot : W.heap[x]? = some (.cells #[.pointer (some ⟨tb, 0, none⟩), .int .i64 0] 63)
  box : W.heap[q]? = some (.cells #[.int .u32 (p.1 : Int), .int .i64 p.2] 46)
theorem OvB.keep {x tb q : Nat} {p : PKi} {W W' : World} (h : OvB x tb q p W) (hb : Below W.heap.size W W') : OvB x tb q p W' := ⟨(hb.block _ (lt_of_blk h.tot)).trans h.tot, (hb.block _ (lt_of_blk h.box)).trans h.box⟩
theorem box_range {q : Nat} {p : PKi} {W : World} (h : W.heap[q]? = some (.cells #[.int .u32 (p.1 : Int), .int .i64 p.2] 46)) : W.rangeAt q 0 (#[Value.int .u32 (p.1 : Int), .int .i64 p.2] : Array Value).toList := rangeAt_block h 0 _ rfl
set_option maxRecDepth 100000 in
set_option maxHeartbeats 16000000 in
theorem over_any {w : World} {oa : Option Addr} {n c : Nat} {P : List PKi} (h : RPk.Sl w oa n c P) (ha : ∀ p ∈ P, p.1 < 4294967296) (hmx : n ≤ 16384) : Calls Try.prog 7 #[.slice oa n c] w fun e w' => ((ovE P ≠ 0 ∧ e = .returned (.tuple #[.pointer none, .int .i64 (ovE P)])) ∨ (ovE P = 0 ∧ ∃ x tb N G, e = .returned (.tuple #[.pointer (some ⟨x, 0, none⟩), .int .i64 0]) ∧ TotAt w' w.heap.size x tb N G 0 ∧ G.map gC = ovL P)) ∧ Below w.heap.size w w' := by
  have F := Lib.hid (And.intro h (And.intro h.len ha))
  clear h ha
  go_enter Try.func7, Try.ntmps7
  go_wp2_with fail
  refine (newEX _).mono ?_
  rintro e W1 ⟨rfl, N0, ht, hft, hb⟩
  have hal := (Below.refl W1.heap.size W1).alloc (Nat.le_refl _) (.cells #[.pointer (some ⟨w.heap.size + 1, 0, none⟩), .int .i64 0] 63)
  have F0 := Lib.hid (And.intro (show TotAt (W1.alloc (.cells #[.pointer (some ⟨w.heap.size + 1, 0, none⟩), .int .i64 0] 63)) w.heap.size W1.heap.size (w.heap.size + 1) N0 [] 0 from
    ⟨hnew _ _, ht.below hal, (fun e he => by cases he), List.nodup_nil, ⟨hb.size, hft, fun e he => by cases he⟩, fun hk => Nat.lt_irrefl _ (ht.lt hk), fun e he => by cases he⟩) (bcall hb (Nat.le_refl _) hal))
  clear ht hft hb hal
  go_wp2_with fail
  generalize W1.alloc (.cells #[.pointer (some ⟨w.heap.size + 1, 0, none⟩), .int .i64 0] 63) = V0 at *
  generalize W1.heap.size = x at *
  generalize htb : w.heap.size + 1 = tb at *
  clear htb
  go_loopw [13] (fun iv wr => ∃ (i : Nat) (N : Nat → Nat → Option Nat) (G : List GE), i ≤ n ∧ iv = .int .i64 i ∧ TotAt wr w.heap.size x tb N G 0 ∧ G.map gC = ovL (P.take i) ∧ okAll (P.take i) = true ∧ Below w.heap.size w wr) (fun iv _ => n - (intOf iv).toNat)
  case atStart => exact ⟨0, N0, [], Nat.zero_le _, rfl, F0.out.1, rfl, rfl, F0.out.2⟩
  case round =>
    obtain ⟨i, N, G, hi, rfl, htot, hG, hok, hb⟩ := hrel
    obtain ⟨w2, rfl⟩ : ∃ w2 : World, w2 = wr := ⟨_, rfl⟩
    by_cases hlt : i < n
    · have hil : ((i : Int) < (n : Int)) = True := by simp; omega
      have hi0 : ((0 : Int) ≤ (i : Int)) = True := by simp
      have hwi := wrapS hlt (show n ≤ maxLen by unfold maxLen; omega)
      obtain ⟨b, o, rfl, hbb, hat⟩ := F.out.1.at hlt
      have hil2 : i < P.length := by have := F.out.2.1; omega
      have hpa := F.out.2.2 _ (getD_mem hil2)
      obtain ⟨p, hp⟩ : ∃ p, P.getD i default = p := ⟨_, rfl⟩
      rw [hp] at hat hpa
      have hat2 : RPk.At w2 b (o + i * 2) p := hat.keep (hb.block _ hbb)
      have c0 : w2.cell? ⟨b, o + i * 2, none⟩ = some (.int .u32 (p.1 : Int)) := hat2 0 (by decide)
      have c1 : w2.cell? ⟨b, o + i * 2 + 1, none⟩ = some (.int .i64 p.2) := hat2 1 (by decide)
      have hGl : (G.map gE).length < 4611686018427387904 := by
        have h1 := congrArg List.length hG
        rw [List.length_map] at h1
        have h2 := (ovL_len (P.take i)).1
        rw [List.length_take] at h2
        rw [List.length_map]
        omega
      have G0 := Lib.hid (And.intro htot (And.intro hG (And.intro hok (And.intro hb (And.intro hil2 (And.intro hp (And.intro hpa hGl)))))))
      have HJ := Lib.hid (And.intro hlt hwi)
      clear htot hG hok hb hil2 hp hlt hat hat2 hbb hi hGl hpa
      go_wp2_with (with_reducible refine halt_store 46 rfl ?_)
      refine Halted.go ?_
      clear c0 c1
      have hal := (Below.refl w2.heap.size w2).alloc (Nat.le_refl _) (.cells #[.int .u32 0, .int .i64 0] 46)
      refine store_whole rfl 46 _ _ rfl w2.heap.size #[.int .u32 (p.1 : Int), .int .i64 p.2] rfl rfl (hnew _ _) rfl (by kernel_rfl) (by simp [Value.oneCell']) ?_
      intro W3 hz hsz
      have hb3 : Below w2.heap.size w2 W3 := Below.trans hal (hsz.below (Nat.le_refl _))
      have hd := (Below.refl W3.heap.size W3).drew
      have hb4 := bcall hb3 (Nat.le_refl _) hd
      have G1 := Lib.hid (And.intro (G0.out.1.keep hb4) (And.intro (show OvB x tb w2.heap.size p W3.drew from OvB.keep ⟨(hb3.block _ (lt_of_blk G0.out.1.tot)).trans G0.out.1.tot, hz⟩ hd) (bcall G0.out.2.2.2.1 (Nat.le_refl _) hb4)))
      clear hal hsz hz hb3 hd hb4
      go_wp2_with fail
      refine wp_region_heldP (OvB x tb w2.heap.size p) (by kernel_rfl) ?_
      generalize W3.drew = V at *
      refine held_reads [0, 1, 2, 3, 4] (g := 3) rfl (by kernel_rfl) G1.out.2.1 (fun _ _ d _ _ h => by cases d <;> exact h) ?_
      simp only [pick, List.getD_cons_zero, List.getD_cons_succ]
      ((with_reducible refine wpRead_step (fun K hK => ?_)); go_simp; first | ((with_reducible refine hK _ ?_); clear hK K) | (apply Exists.intro; (with_reducible refine ⟨fun w' hw' => ?_, hK _ ?_⟩); ((have f0 : w'.cell? ⟨x, 0, none⟩ = _ := cell_of hw'.tot rfl; go_simp; first | exact rfl | exact ⟨rfl, rfl⟩)); clear hK K))
      ((with_reducible refine wpRead_step (fun K hK => ?_)); go_simp; first | ((with_reducible refine hK _ ?_); clear hK K) | (apply Exists.intro; (with_reducible refine ⟨fun w' hw' => ?_, hK _ ?_⟩); ((have f0 : w'.cell? ⟨x, 0, none⟩ = _ := cell_of hw'.tot rfl; go_simp; first | exact rfl | exact ⟨rfl, rfl⟩)); clear hK K))
      ((with_reducible refine wpRead_step (fun K hK => ?_)); go_simp; first | ((with_reducible refine hK _ ?_); clear hK K) | (apply Exists.intro; (with_reducible refine ⟨fun w' hw' => ?_, hK _ ?_⟩); ((have f0 : w'.cell? ⟨x, 0, none⟩ = _ := cell_of hw'.tot rfl; go_simp; first | exact rfl | exact ⟨rfl, rfl⟩)); clear hK K))
      ((with_reducible refine wpRead_step (fun K hK => ?_)); go_simp; first | ((with_reducible refine hK _ ?_); clear hK K) | (apply Exists.intro; (with_reducible refine ⟨fun w' hw' => ?_, hK _ ?_⟩); ((have f0 : w'.cell? ⟨x, 0, none⟩ = _ := cell_of hw'.tot rfl; go_simp; first | exact rfl | exact ⟨rfl, rfl⟩)); clear hK K))
      with_reducible refine wpRead_yes ?_ ?_
      rotate_left
      rfl
      intro K hK
      refine read_load 46 _ rfl w2.heap.size 0 #[.int .u32 (p.1 : Int), .int .i64 p.2] rfl (fun w' hw' => box_range hw'.box) Try.underlying46 rfl (by kernel_rfl) (hK _ ?_)
      clear hK K
      with_reducible refine wpRead_nil ?_
      refine held_one 5 (by kernel_rfl) ?_
      simp only [pick, List.getD_cons_zero, List.getD_cons_succ]
      have hal := (Below.refl V.heap.size V).alloc (Nat.le_refl _) (.cells #[.int .i64 0] 3)
      have hblk : (V.alloc (.cells #[.int .i64 0] 3)).heap[V.heap.size]? = some (.cells #[.int .i64 0] 3) := hnew _ _
      have G2 := Lib.hid (And.intro (G1.out.1.keep hal) (And.intro (G1.out.2.1.keep hal) (And.intro (bcall G1.out.2.2 (Nat.le_refl _) hal) (And.intro hblk (And.intro (show ¬ foot tb N V.heap.size from fun hk => Nat.lt_irrefl _ (G1.out.1.tr.lt hk)) (And.intro (show V.heap.size ∉ G.map (·.2.1) from fun hm => by
        obtain ⟨e, he, h2⟩ := List.mem_map.1 hm
        have := lt_of_blk (G1.out.1.cnt e he)
        omega) (show w.heap.size ≤ V.heap.size from G1.out.2.2.size)))))))
      have HQ := Lib.hid (show ¬ foot tb N w2.heap.size from fun hk => Nat.lt_irrefl _ (G0.out.1.tr.lt hk))
      clear hal hblk
      go_wp2_with fail
      refine ⟨G2.out.2.1, ?_⟩
      generalize V.alloc (.cells #[.int .i64 0] 3) = V2 at *
      generalize V.heap.size = blk at *
      refine held_one 6 (by kernel_rfl) ?_
      simp only [pick, List.getD_cons_zero, List.getD_cons_succ]
      go_wp2_with fail
      refine (setEX G2.out.1.tr G0.out.2.2.2.2.2.2.2 p.1 p.2 G0.out.2.2.2.2.2.2.1 _).mono ?_
      rintro e W6 ⟨rfl, N', ht, hm⟩
      have G3 := Lib.hid (And.intro (show OvB x tb w2.heap.size p W6 from ⟨(hm.same _ (lt_of_blk G2.out.1.tot) G2.out.1.sep.1).trans G2.out.1.tot, (hm.same _ (lt_of_blk G2.out.2.1.box) HQ.out).trans G2.out.2.1.box⟩) (And.intro ht (And.intro hm (moved_below G2.out.2.2.1 hm G2.out.1.low.2.1 G2.out.2.2.1.size))))
      clear ht hm
      cases hokb : okP p.1 p.2
      · have HO := Lib.hid hokb
        clear hokb
        simp only [Bool.false_eq_true, if_false]
        go_wp2_with fail
        refine ⟨G3.out.1, ?_⟩
        refine held_one 7 (by kernel_rfl) ?_
        simp only [pick, List.getD_cons_zero, List.getD_cons_succ]
        go_wp2_with fail
        refine ⟨G3.out.1, ?_⟩
        refine wpAnyH_done (by kernel_rfl) ?_ _
        have he := ovE_bad G0.out.2.2.2.2.1 (by rw [G0.out.2.2.2.2.2.1]; exact HO.out)
        go_wp2_with fail
        go_ret2
        exact ⟨.inl ⟨by rw [he]; decide, by rw [he]; rfl⟩, G3.out.2.2.2⟩
      · have HO := Lib.hid hokb
        clear hokb
        simp only [if_true]
        go_wp2_with fail
        refine ⟨G3.out.1, ?_⟩
        refine held_one 7 (by kernel_rfl) ?_
        simp only [pick, List.getD_cons_zero, List.getD_cons_succ]
        go_wp2_with fail
        refine ⟨G3.out.1, ?_⟩
        refine wpAnyH_done (by kernel_rfl) ?_ _
        have G4 := Lib.hid (show TotAt W6 w.heap.size x tb N' (insE (keyP p) (blk, 0) G) 0 from by
          have ht := G3.out.2.1
          unfold setL at ht
          rw [if_pos HO.out] at ht
          exact G2.out.1.set G2.out.2.2.2.1 G2.out.2.2.2.2.1 G2.out.2.2.2.2.2.2 G2.out.2.2.2.2.2.1 G3.out.2.2.1 ht)
        have HG := Lib.hid (show (insE (keyP p) (blk, 0) G).map gC = ovL (P.take (i + 1)) from by
          rw [takeS G0.out.2.2.2.2.1, G0.out.2.2.2.2.2.1, ovL_snoc, ← G0.out.2.1, ← gC_ins])
        have HK := Lib.hid (okAll_take G0.out.2.2.2.2.1 G0.out.2.2.1 (by rw [G0.out.2.2.2.2.2.1]; exact HO.out))
        go_wp2_with fail
        exact ⟨⟨i + 1, N', _, HJ.out.1, by first | rw [HJ.out.2] | rw [Int.natCast_succ], G4.out, HG.out, HK.out, G3.out.2.2.2⟩, by first | (rw [HJ.out.2]; exact mSucc HJ.out.1) | (rw [← Int.natCast_succ]; exact mSucc HJ.out.1)⟩
    · obtain rfl : i = n := by omega
      have hil : ((i : Int) < (i : Int)) = False := by simp
      have hPi : P.take i = P := List.take_of_length_le (by have := F.out.2.1; omega)
      rw [hPi] at hG hok
      obtain ⟨M, hM, hR⟩ := htot.tr
      have hl := lenX_any hM
      have hgl : (G.map gE).length = (ovL P).length := by rw [← hG]; simp
      rw [hgl] at hl
      have HLN := Lib.hid hl
      have hll := ovL_len P
      have e0 : w2.cell? ⟨x, 0, none⟩ = some (.pointer (some ⟨tb, 0, none⟩)) := cell_of htot.tot rfl
      have G0 := Lib.hid (And.intro htot (And.intro hG (And.intro hok (And.intro hb hll))))
      obtain ⟨m, hm⟩ : ∃ m, (ovL P).length = m := ⟨_, rfl⟩
      have HM := Lib.hid hm
      rw [hm] at HLN
      clear htot hG hok hb hPi hM hR hl hgl hll hm
      go_wp2_with fail
      refine HLN.out.mono ?_
      rintro e W4 ⟨rfl, hw⟩
      have hw := hw.symm
      subst hw
      clear e0 HLN
      by_cases hmi : m < i
      · have h1 : ((m : Int) < (i : Int)) = True := by simp; omega
        have HE := Lib.hid (show ovE P = 20 from by
          unfold ovE
          rw [if_neg]
          rintro ⟨-, h⟩
          have h2 := G0.out.2.2.2.2.2.2 h
          have h3 := HM.out
          have h4 := F.out.2.1
          omega)
        clear hmi
        go_wp2_with fail
        go_ret2
        exact ⟨.inl ⟨by rw [HE.out]; decide, by rw [HE.out]; rfl⟩, G0.out.2.2.2.1⟩
      · have h1 : ((m : Int) < (i : Int)) = False := by simp; omega
        have HE := Lib.hid (ovE_ok G0.out.2.2.1 (by
          have h1 := G0.out.2.2.2.2.1
          have h3 := HM.out
          have h4 := F.out.2.1
          omega))
        clear hmi
        by_cases hbig : 1024 < i
        · have h2 : ((1024 : Int) < (i : Int)) = True := by simp; omega
          have HE2 := Lib.hid (HE.out.trans (if_pos (by have := F.out.2.1; omega)))
          clear hbig HE
          go_wp2_with fail
          go_ret2
          exact ⟨.inl ⟨by rw [HE2.out]; decide, by rw [HE2.out]; rfl⟩, G0.out.2.2.2.1⟩
        · have h2 : ((1024 : Int) < (i : Int)) = False := by simp; omega
          have HE2 := Lib.hid (HE.out.trans (if_neg (by have := F.out.2.1; omega)))
          clear hbig HE
          go_wp2_with fail
          go_ret2
          exact ⟨.inr ⟨HE2.out, _, _, _, _, rfl, G0.out.1, G0.out.2.1⟩, G0.out.2.2.2.1⟩
end Go.Proofs.Ytcbpdjenncbbeaa
/- Flows into counts (plain law). -/
namespace Go.Proofs.Ytcbpdjenncbbeaa
open Go.RowKit

def holdK (K : Nat × Nat) (a : Nat) : Bool := decide (cut a K.2 = K.1)
def better (L : List KC) (a : Nat) (b : Option Nat) (k : Nat) : Bool := holdK (L.getD k default).1 a && (match b with | none => true | some j => decide ((L.getD j default).1.2 < (L.getD k default).1.2))
def bestU (L : List KC) (a : Nat) : Nat → Option Nat
  | 0 => none
  | k + 1 => if better L a (bestU L a k) k then some k else bestU L a k
def bestO (L : List KC) (a : Nat) : Option Nat := bestU L a L.length
def Bst (L : List KC) (a i : Nat) : Option Nat → Prop
  | none => ∀ k, k < i → holdK (L.getD k default).1 a = false
  | some j => j < i ∧ holdK (L.getD j default).1 a = true ∧ ∀ k, k < i → holdK (L.getD k default).1 a = true → (L.getD k default).1.2 ≤ (L.getD j default).1.2
theorem bestU_spec (L : List KC) (a : Nat) : ∀ i, Bst L a i (bestU L a i)
  | 0 => fun k hk => absurd hk (Nat.not_lt_zero _)
  | i + 1 => by
    have ih := bestU_spec L a i
    unfold bestU
    cases hb : bestU L a i with
    | none =>
      rw [hb] at ih
      have ih : ∀ k, k < i → holdK (L.getD k default).1 a = false := ih
      unfold better
      dsimp only
      rw [Bool.and_true]
      cases hh : holdK (L.getD i default).1 a with
      | false =>
        rw [if_neg (by simp)]
        intro k hk
        by_cases e : k = i
        · rw [e]; exact hh
        · exact ih k (by omega)
      | true =>
        rw [if_pos rfl]
        refine ⟨Nat.lt_succ_self _, hh, fun k hk hk2 => ?_⟩
        by_cases e : k = i
        · rw [e]; exact Nat.le_refl _
        · rw [ih k (by omega)] at hk2; cases hk2
    | some j =>
      rw [hb] at ih
      obtain ⟨h1, h2, h3⟩ : j < i ∧ holdK (L.getD j default).1 a = true ∧ ∀ k, k < i → holdK (L.getD k default).1 a = true → (L.getD k default).1.2 ≤ (L.getD j default).1.2 := ih
      unfold better
      dsimp only
      by_cases hc : holdK (L.getD i default).1 a = true ∧ (L.getD j default).1.2 < (L.getD i default).1.2
      · rw [if_pos (by simpa using hc)]
        refine ⟨Nat.lt_succ_self _, hc.1, fun k hk hk2 => ?_⟩
        by_cases e : k = i
        · rw [e]; exact Nat.le_refl _
        · have := h3 k (by omega) hk2; omega
      · rw [if_neg (by simpa using hc)]
        refine ⟨by omega, h2, fun k hk hk2 => ?_⟩
        by_cases e : k = i
        · rw [e] at hk2 ⊢
          have : ¬ (L.getD j default).1.2 < (L.getD i default).1.2 := fun h => hc ⟨hk2, h⟩
          omega
        · exact h3 k (by omega) hk2
/-- the state behind a flow, where k is the place of the best one -/
def addK' (L : List KC) (rest : Int) (o : Option Nat) (n : Int) : List KC × Int := match o with
  | none => (L, addI rest n)
  | some k => (L.modify k (fun e => (e.1, addI e.2 n)), rest)
def addF (s : List KC × Int) (f : Fl) : List KC × Int := addK' s.1 s.2 (bestO s.1 f.dst) f.by'
def addAll (s : List KC × Int) (fs : List Fl) : List KC × Int := fs.foldl addF s
theorem addAll_succ (s : List KC × Int) {fs : List Fl} {i : Nat} (h : i < fs.length) : addAll s (fs.take (i + 1)) = addF (addAll s (fs.take i)) (fs.getD i default) := by
  rw [takeS h]; unfold addAll; rw [List.foldl_append]; rfl
theorem modify_keys (L : List KC) (k : Nat) (n : Int) : (L.modify k (fun e => (e.1, addI e.2 n))).map (·.1) = L.map (·.1) := by
  apply List.ext_getElem?
  intro i
  simp only [List.getElem?_map, List.getElem?_modify]
  split <;> (cases L[i]? <;> rfl)
theorem addF_keys (s : List KC × Int) (f : Fl) : (addF s f).1.map (·.1) = s.1.map (·.1) := by
  unfold addF addK'
  split
  · rfl
  · exact modify_keys _ _ _
theorem addAll_keys (s : List KC × Int) (fs : List Fl) : (addAll s fs).1.map (·.1) = s.1.map (·.1) := by
  unfold addAll
  induction fs generalizing s with
  | nil => rfl
  | cons f r ih => rw [List.foldl_cons, ih, addF_keys]
theorem lng_none' {α : Type} {M : Nat → Nat → Option α} {a : Nat} : ∀ {i : Nat}, lng M a i = none → ∀ j, j < i → M (cut a j) j = none
  | 0, _, j, hj => absurd hj (Nat.not_lt_zero _)
  | i + 1, h, j, hj => by
    unfold lng at h
    split at h
    · cases h
    · rename_i h1
      by_cases e : j = i
      · rw [e]; simpa using h1
      · exact lng_none' h j (by omega)
theorem lng_some' {α : Type} {M : Nat → Nat → Option α} {a : Nat} : ∀ {i j : Nat}, lng M a i = some j → j < i ∧ (M (cut a j) j).isSome = true ∧ ∀ k, j < k → k < i → M (cut a k) k = none
  | 0, _, h => by cases h
  | i + 1, j, h => by
    unfold lng at h
    split at h
    · rename_i h1
      injection h with h
      subst h
      exact ⟨Nat.lt_succ_self _, h1, fun k h2 h3 => by omega⟩
    · rename_i h1
      obtain ⟨h2, h3, h4⟩ := lng_some' h
      refine ⟨by omega, h3, fun k hk hk2 => ?_⟩
      by_cases e : k = i
      · rw [e]; simpa using h1
      · exact h4 k hk (by omega)
/-- what the trie tells is the best one -/
theorem lng_best {G : List GE} {M : Nat → Nat → Option (Option Addr)} (hR : RefOk (G.map gE) M) (a : Nat) :
    (lng M a 33 = none ∧ bestO (G.map gC) a = none) ∨ ∃ j k e, lng M a 33 = some j ∧ bestO (G.map gC) a = some k ∧ G[k]? = some e ∧ M (cut a j) j = some (some ⟨e.2.1, 0, none⟩) := by
  have hb := bestU_spec (G.map gC) a (G.map gC).length
  have hkey : ∀ e ∈ G, e.1.2 ≤ 32 := fun e he => (hR.key _ (List.mem_map.2 ⟨e, he, rfl⟩)).le
  have hmem : ∀ k, k < G.length → ∃ e, G[k]? = some e ∧ e ∈ G ∧ (G.map gC).getD k default = gC e := fun k hk => by
    refine ⟨G[k], List.getElem?_eq_getElem hk, List.getElem_mem hk, ?_⟩
    rw [List.getD_eq_getElem?_getD, List.getElem?_map, List.getElem?_eq_getElem hk]; rfl
  have hM : ∀ e ∈ G, holdK e.1 a = true → M (cut a e.1.2) e.1.2 = some (some ⟨e.2.1, 0, none⟩) := fun e he hh => by
    rw [hR.is]
    unfold holdK at hh
    rw [decide_eq_true_eq] at hh
    rw [hh]
    exact List.mem_map.2 ⟨e, he, rfl⟩
  cases hl : lng M a 33 with
  | none =>
    left
    refine ⟨rfl, ?_⟩
    have h1 := lng_none' hl
    unfold bestO
    cases hu : bestU (G.map gC) a (G.map gC).length with
    | none => rfl
    | some k =>
      rw [hu] at hb
      obtain ⟨h2, h3, -⟩ := hb
      obtain ⟨e, h4, h5, h6⟩ := hmem k (by simpa using h2)
      rw [h6] at h3
      have h7 := hM e h5 h3
      rw [h1 _ (by have := hkey e h5; omega)] at h7
      cases h7
  | some j =>
    right
    obtain ⟨h1, h2, h3⟩ := lng_some' hl
    obtain ⟨v, hv⟩ := Option.isSome_iff_exists.1 h2
    have h4 := (hR.is _ _ _).1 hv
    obtain ⟨d, hd, he⟩ := List.mem_map.1 h4
    unfold gE at he
    injection he with he1 he2
    have hdh : holdK d.1 a = true := by
      unfold holdK
      rw [he1]
      simp
    unfold bestO
    cases hu : bestU (G.map gC) a (G.map gC).length with
    | none =>
      rw [hu] at hb
      obtain ⟨i, hi, hge⟩ := List.getElem_of_mem hd
      have h5 := hb i (by simpa using hi)
      obtain ⟨e, h6, h7, h8⟩ := hmem i hi
      rw [h8] at h5
      rw [List.getElem?_eq_getElem hi, hge] at h6
      injection h6 with h6
      subst h6
      have h5 : holdK d.1 a = false := h5
      rw [hdh] at h5
      cases h5
    | some k =>
      rw [hu] at hb
      obtain ⟨h5, h6, h7⟩ := hb
      obtain ⟨e, h8, h9, h10⟩ := hmem k (by simpa using h5)
      rw [h10] at h6 h7
      have h6 : holdK e.1 a = true := h6
      obtain ⟨i, hi, hge⟩ := List.getElem_of_mem hd
      obtain ⟨e', h11, h12, h13⟩ := hmem i hi
      rw [List.getElem?_eq_getElem hi, hge] at h11
      injection h11 with h11
      subst h11
      have h14 := h7 i (by simpa using hi) (by rw [h13]; exact hdh)
      rw [h13] at h14
      have h14 : d.1.2 ≤ e.1.2 := h14
      have h15 : d.1.2 = j := by rw [he1]
      have h16 := hM e h9 h6
      have h17 : e.1.2 = j := by
        by_cases h : j < e.1.2
        · rw [h3 _ h (by have := hkey e h9; omega)] at h16; cases h16
        · omega
      rw [h17] at h16
      exact ⟨j, k, e, rfl, rfl, h8, h16⟩
end Go.Proofs.Ytcbpdjenncbbeaa
/- Two operations that come up together. -/
namespace Go.Proofs.Ytcbpdjenncbbeaa
open Go Go.RowKit

section
variable {P : Program} {ops : Array Oper} {md : Region.Mode} {S : World → Prop}

/-- two that come up, in whatever order -/
theorem held_two {Q : Exit → Act → World → Prop} {g : Nat} (i j : Nat) {l0 : Array Bool} {a : Act} {w : World} (hB : decide (Region.ready md ops l0 = [i, j]) = true)
    (h1 : wpList P ops (Exit.then (fun a' w' => S w' ∧ wpAnyH P md ops Q S g (l0.setIfInBounds i true) a' w') Q) (pick ops.toList [i]) a w)
    (h2 : wpList P ops (Exit.then (fun a' w' => S w' ∧ wpAnyH P md ops Q S g (l0.setIfInBounds j true) a' w') Q) (pick ops.toList [j]) a w) : wpAnyH P md ops Q S (g + 1) l0 a w := by
  have hr : Region.ready md ops l0 = [i, j] := by simpa using hB
  have go : ∀ k, k ∈ [i, j] → wpList P ops (Exit.then (fun a' w' => S w' ∧ wpAnyH P md ops Q S g (l0.setIfInBounds k true) a' w') Q) (pick ops.toList [k]) a w → wpOp P ops Q k (fun a' w' => S w' ∧ wpAnyH P md ops Q S g (l0.setIfInBounds k true) a' w') a w := by
    intro k hk h
    obtain ⟨o, ho⟩ := ready_lt (md := md) (ops := ops) (listed := l0) (i := k) (by rw [hr]; exact hk)
    have hp : pick ops.toList [k] = [o] := by simp [pick, List.getD_eq_getElem?_getD, ho]
    rw [hp] at h
    unfold wpOp
    simp only [ho]
    unfold wpList at h
    by_cases hw : Region.wanted o (yielded ops a.tmps) = true
    · rw [if_pos hw] at h ⊢
      refine h.imp (fun h => wp_then (Oper.wp_mono (fun a' w' h' => h') h)) (fun h => ⟨h.1, let ⟨a, w, h⟩ := h.2; ⟨a, w, h⟩⟩)
    · rw [if_neg hw] at h ⊢
      exact h
  refine wpAnyH_all hr (by simp) fun k hk => go k hk ?_
  simp only [List.mem_cons, List.not_mem_nil, or_false] at hk
  rcases hk with rfl | rfl
  · exact h1
  · exact h2
end
end Go.Proofs.Ytcbpdjenncbbeaa
