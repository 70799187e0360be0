/- A set of records that is taken. -/
import Derived.Test.YtcbpdjenncbbeaaQaq
import Derived.Test.YtcbpdjenncbbeaaQaj
namespace Go.Proofs.Ytcbpdjenncbbeaa.Ip
open Go.RowKit

def flowP (dm : Int) (p : List Nat) : Fl := ⟨dm, getN (p.take 4), getN (p.drop 4)⟩
def flowsOf (dm : Int) (l : List Nat) (k : Nat) : List Fl := (pcs 8 l k).map (flowP dm)
theorem flowsOf_len (dm : Int) (l : List Nat) (k : Nat) : (flowsOf dm l k).length = k := by simp [flowsOf, pcs]
theorem flowsOf_get {dm : Int} {l : List Nat} {k i : Nat} (h : i < k) : (flowsOf dm l k).getD i default = flowP dm (pc 8 l i) := by
  simp [flowsOf, pcs, List.getD_eq_getElem?_getD, List.getElem?_map, List.getElem?_range h]
theorem szT_us (fa : Option Addr) (fc : Nat) : szT ⟨300, ⟨fa, 2, fc, [(12, 4), (1, 4)]⟩⟩ = 8 := by kernel_rfl
theorem fds_us {w : World} {fa : Option Addr} {fc : Nat} (h : RFd.Sl w fa 2 fc usF) (hnil : fa = none → fc = 0) (h2 : 2 ≤ fc) (h3 : fc ≤ maxLen) : FdsOk w ⟨fa, 2, fc, [(12, 4), (1, 4)]⟩ := ⟨h, hnil, h2, h3, fun x hx => by
  simp only [List.mem_cons, List.not_mem_nil, or_false] at hx
  rcases hx with rfl | rfl <;> exact ⟨by decide, by decide⟩⟩
theorem rb_but {W W' : World} {tk : Nat} {cs : Array Value} (ht : W.heap[tk]? = some (.cells cs 81)) {oa : Option Addr} {n c : Nat} {l : List Nat} (h : B5 W oa n c l) (hb : But W W' [tk]) : RB.Sl W' oa n c l := ⟨h.sl.len, h.sl.max, fun h0 => by
  obtain ⟨b, o, e, hr⟩ := h.sl.row h0
  obtain ⟨cs5, h5⟩ := h.t5 b o e
  have hne : b ≠ tk := fun e2 => by
    rw [e2, ht] at h5
    injection h5 with h5; injection h5 with _ h5; exact absurd h5 (by decide)
  exact ⟨b, o, e, hr.keep (hb.block b hr.lt (by simpa using hne))⟩⟩
structure DaS (cb kb nb : Nat) (es : List (MR.Ent TK)) (k1 : Nat) (lost bad : Int) (tk q3 : Nat) (tm sq dm : Int) (s1 : Option Addr) (s2 s3 : Nat) (r : Int) (oa : Option Addr) (n c : Nat) (W : World) : Prop where
  tk' : W.heap[tk]? = some (.cells #[.pointer (some ⟨cb, 0, none⟩), .int .i64 tm, .int .i64 sq, .int .i64 dm, .slice s1 s2 s3, .slice none 0 0, .int .i64 r] 81)
  col : W.heap[cb]? = some (.cells #[.map (some kb), .map (some nb), .int .i64 lost, .int .i64 bad] 89)
  kn : MR.MapAt TN W kb es k1
  st : W.heap[q3]? = some (.cells #[.int .i64 300, .slice oa n c] 83)
section
variable {cb kb nb : Nat} {es : List (MR.Ent TK)} {k1 : Nat} {lost bad : Int} {tk q3 : Nat} {tm sq dm : Int} {s1 : Option Addr} {s2 s3 : Nat} {r : Int} {oa : Option Addr} {n c : Nat} {W W' : World}
theorem DaS.keep (h : DaS cb kb nb es k1 lost bad tk q3 tm sq dm s1 s2 s3 r oa n c W) (hb : Below W.heap.size W W') : DaS cb kb nb es k1 lost bad tk q3 tm sq dm s1 s2 s3 r oa n c W' :=
  ⟨(hb.block _ (lt_of_blk h.tk')).trans h.tk', (hb.block _ (lt_of_blk h.col)).trans h.col, h.kn.blk_iff TN (hb.block _ (lt_of_blk h.kn.blk)), (hb.block _ (lt_of_blk h.st)).trans h.st⟩
theorem DaS.look (h : DaS cb kb nb es k1 lost bad tk q3 tm sq dm s1 s2 s3 r oa n c W) (hd : (Lit.int .i64 dm).wf = true) {fa : Option Addr} {fc : Nat} (hl : MR.get? es (dm, 300) = some (.agg #[.int .i64 300, .slice fa 2 fc])) : (Instr.lookup 86 (.map (some kb)) (.agg #[.int .i64 dm, .int .i64 300]) true).run Try.prog W = .ok (.tuple #[.agg #[.int .i64 300, .slice fa 2 fc], .bool true]) W := by
  have h1 := MR.run_lookup TN h.kn (x := (dm, 300)) ⟨hd, wf300⟩ Try.underlying86 zeroT true
  rw [hl] at h1
  exact h1
end
structure DbS (cb tk q4 : Nat) (tm sq dm : Int) (s1 : Option Addr) (s2 s3 : Nat) (v : Value) (r : Int) (fa : Option Addr) (fc : Nat) (W : World) : Prop where
  tk' : W.heap[tk]? = some (.cells #[.pointer (some ⟨cb, 0, none⟩), .int .i64 tm, .int .i64 sq, .int .i64 dm, .slice s1 s2 s3, v, .int .i64 r] 81)
  tm' : W.heap[q4]? = some (.cells #[.int .i64 300, .slice fa 2 fc] 93)
theorem DbS.keep {cb tk q4 : Nat} {tm sq dm : Int} {s1 : Option Addr} {s2 s3 : Nat} {v : Value} {r : Int} {fa : Option Addr} {fc : Nat} {W W' : World} (h : DbS cb tk q4 tm sq dm s1 s2 s3 v r fa fc W) (hb : Below W.heap.size W W') : DbS cb tk q4 tm sq dm s1 s2 s3 v r fa fc W' :=
  ⟨(hb.block _ (lt_of_blk h.tk')).trans h.tk', (hb.block _ (lt_of_blk h.tm')).trans h.tm'⟩
structure DcS (cb tk q10 : Nat) (tm sq dm : Int) (s1 : Option Addr) (s2 s3 : Nat) (v : Value) (r : Int) (x : Fl) (W : World) : Prop where
  tk' : W.heap[tk]? = some (.cells #[.pointer (some ⟨cb, 0, none⟩), .int .i64 tm, .int .i64 sq, .int .i64 dm, .slice s1 s2 s3, v, .int .i64 r] 81)
  fl : W.heap[q10]? = some (.cells #[.int .i64 x.dom, .int .u32 (x.dst : Int), .int .i64 x.by'] 44)
theorem DcS.keep {cb tk q10 : Nat} {tm sq dm : Int} {s1 : Option Addr} {s2 s3 : Nat} {v : Value} {r : Int} {x : Fl} {W W' : World} (h : DcS cb tk q10 tm sq dm s1 s2 s3 v r x W) (hb : Below W.heap.size W W') : DcS cb tk q10 tm sq dm s1 s2 s3 v r x W' :=
  ⟨(hb.block _ (lt_of_blk h.tk')).trans h.tk', (hb.block _ (lt_of_blk h.fl)).trans h.fl⟩
set_option maxRecDepth 100000 in
set_option maxHeartbeats 16000000 in
theorem data_us {w : World} {cb kb nb : Nat} {es : List (MR.Ent TK)} {k1 : Nat} {ns : List (MR.Ent Int)} {k2 : Nat} {lost bad : Int} (h : ColAt w cb kb nb es k1 ns k2 lost bad) {tk : Nat} {tm sq dm : Int} {s1 : Option Addr} {s2 s3 : Nat} (ht : w.heap[tk]? = some (.cells #[.pointer (some ⟨cb, 0, none⟩), .int .i64 tm, .int .i64 sq, .int .i64 dm, .slice s1 s2 s3, .slice none 0 0, .int .i64 0] 81)) (hd : (Lit.int .i64 dm).wf = true) {fa : Option Addr} {fc : Nat} (hl : MR.get? es (dm, 300) = some (.agg #[.int .i64 300, .slice fa 2 fc])) (hf : FdsOk w ⟨fa, 2, fc, [(12, 4), (1, 4)]⟩) {oa : Option Addr} {n c k : Nat} {l : List Nat} (hb : BA w oa n c l) (hby : Bytes l) (hn : n = 8 * k) (hk : k ≤ 500) :
    Calls Try.prog 35 #[.pointer (some ⟨tk, 0, none⟩), .agg #[.int .i64 300, .slice oa n c]] w fun e w' => e = .returned (.tuple #[]) ∧ (∃ v, w'.heap[tk]? = some (.cells #[.pointer (some ⟨cb, 0, none⟩), .int .i64 tm, .int .i64 sq, .int .i64 dm, .slice s1 s2 s3, v, .int .i64 (k : Int)] 81) ∧ RFl.Own w' w.heap.size v (flowsOf dm l k)) ∧ But w w' [tk] := by
  have hal := (Below.refl w.heap.size w).alloc (Nat.le_refl _) (.cells #[.int .i64 300, .slice oa n c] 83)
  have hd0 := (hal.drew)
  have hc0 := h.keep hd0
  have hS : DaS cb kb nb es k1 lost bad tk w.heap.size tm sq dm s1 s2 s3 0 oa n c (w.alloc (.cells #[.int .i64 300, .slice oa n c] 83)).drew := ⟨(hd0.block _ (lt_of_blk ht)).trans ht, hc0.col, hc0.kn, hnew _ _⟩
  have F0 := Lib.hid (And.intro hd0 hS)
  have HL := Lib.hid (And.intro hd hl)
  have HB := Lib.hid (And.intro hb (And.intro hby (And.intro hn (And.intro hf ht))))
  clear hal hd0 hc0 hS h hd hl hb hby hf ht hn
  go_enter Try.func35, Try.ntmps35
  go_wp2_with fail
  refine wp_region_heldP (DaS cb kb nb es k1 lost bad tk w.heap.size tm sq dm s1 s2 s3 0 oa n c) (by kernel_rfl) ?_
  generalize (w.alloc (.cells #[.int .i64 300, .slice oa n c] 83)).drew = V at *
  refine held_reads [0, 1, 2, 3, 4, 5, 6, 7, 8, 9, 10, 11, 12, 13, 14, 15, 16, 17, 18] (g := 3) rfl (by kernel_rfl) F0.out.2 (fun _ _ d _ _ h => by cases d <;> exact h) ?_
  simp only [pick, List.getD_cons_zero, List.getD_cons_succ]
  ((with_reducible refine wpRead_step (fun K hK => ?_)); go_simp; first | ((with_reducible refine hK _ ?_); clear hK K) | (apply Exists.intro; (with_reducible refine ⟨fun w' hw' => ?_, hK _ ?_⟩); ((have f0 : w'.cell? ⟨tk, 0, none⟩ = _ := cell_of hw'.tk' rfl; have f3 : w'.cell? ⟨tk, 3, none⟩ = _ := cell_of hw'.tk' rfl; have f4 : w'.cell? ⟨cb, 0, none⟩ = _ := cell_of hw'.col rfl; have f5 : w'.cell? ⟨w.heap.size, 0, none⟩ = _ := cell_of hw'.st rfl; have f1 := hw'.look HL.out.1 HL.out.2; go_simp; first | exact rfl | exact ⟨rfl, rfl⟩)); clear hK K))
  ((with_reducible refine wpRead_step (fun K hK => ?_)); go_simp; first | ((with_reducible refine hK _ ?_); clear hK K) | (apply Exists.intro; (with_reducible refine ⟨fun w' hw' => ?_, hK _ ?_⟩); ((have f0 : w'.cell? ⟨tk, 0, none⟩ = _ := cell_of hw'.tk' rfl; have f3 : w'.cell? ⟨tk, 3, none⟩ = _ := cell_of hw'.tk' rfl; have f4 : w'.cell? ⟨cb, 0, none⟩ = _ := cell_of hw'.col rfl; have f5 : w'.cell? ⟨w.heap.size, 0, none⟩ = _ := cell_of hw'.st rfl; have f1 := hw'.look HL.out.1 HL.out.2; go_simp; first | exact rfl | exact ⟨rfl, rfl⟩)); clear hK K))
  ((with_reducible refine wpRead_step (fun K hK => ?_)); go_simp; first | ((with_reducible refine hK _ ?_); clear hK K) | (apply Exists.intro; (with_reducible refine ⟨fun w' hw' => ?_, hK _ ?_⟩); ((have f0 : w'.cell? ⟨tk, 0, none⟩ = _ := cell_of hw'.tk' rfl; have f3 : w'.cell? ⟨tk, 3, none⟩ = _ := cell_of hw'.tk' rfl; have f4 : w'.cell? ⟨cb, 0, none⟩ = _ := cell_of hw'.col rfl; have f5 : w'.cell? ⟨w.heap.size, 0, none⟩ = _ := cell_of hw'.st rfl; have f1 := hw'.look HL.out.1 HL.out.2; go_simp; first | exact rfl | exact ⟨rfl, rfl⟩)); clear hK K))
  ((with_reducible refine wpRead_step (fun K hK => ?_)); go_simp; first | ((with_reducible refine hK _ ?_); clear hK K) | (apply Exists.intro; (with_reducible refine ⟨fun w' hw' => ?_, hK _ ?_⟩); ((have f0 : w'.cell? ⟨tk, 0, none⟩ = _ := cell_of hw'.tk' rfl; have f3 : w'.cell? ⟨tk, 3, none⟩ = _ := cell_of hw'.tk' rfl; have f4 : w'.cell? ⟨cb, 0, none⟩ = _ := cell_of hw'.col rfl; have f5 : w'.cell? ⟨w.heap.size, 0, none⟩ = _ := cell_of hw'.st rfl; have f1 := hw'.look HL.out.1 HL.out.2; go_simp; first | exact rfl | exact ⟨rfl, rfl⟩)); clear hK K))
  ((with_reducible refine wpRead_step (fun K hK => ?_)); go_simp; first | ((with_reducible refine hK _ ?_); clear hK K) | (apply Exists.intro; (with_reducible refine ⟨fun w' hw' => ?_, hK _ ?_⟩); ((have f0 : w'.cell? ⟨tk, 0, none⟩ = _ := cell_of hw'.tk' rfl; have f3 : w'.cell? ⟨tk, 3, none⟩ = _ := cell_of hw'.tk' rfl; have f4 : w'.cell? ⟨cb, 0, none⟩ = _ := cell_of hw'.col rfl; have f5 : w'.cell? ⟨w.heap.size, 0, none⟩ = _ := cell_of hw'.st rfl; have f1 := hw'.look HL.out.1 HL.out.2; go_simp; first | exact rfl | exact ⟨rfl, rfl⟩)); clear hK K))
  ((with_reducible refine wpRead_step (fun K hK => ?_)); go_simp; first | ((with_reducible refine hK _ ?_); clear hK K) | (apply Exists.intro; (with_reducible refine ⟨fun w' hw' => ?_, hK _ ?_⟩); ((have f0 : w'.cell? ⟨tk, 0, none⟩ = _ := cell_of hw'.tk' rfl; have f3 : w'.cell? ⟨tk, 3, none⟩ = _ := cell_of hw'.tk' rfl; have f4 : w'.cell? ⟨cb, 0, none⟩ = _ := cell_of hw'.col rfl; have f5 : w'.cell? ⟨w.heap.size, 0, none⟩ = _ := cell_of hw'.st rfl; have f1 := hw'.look HL.out.1 HL.out.2; go_simp; first | exact rfl | exact ⟨rfl, rfl⟩)); clear hK K))
  ((with_reducible refine wpRead_step (fun K hK => ?_)); go_simp; first | ((with_reducible refine hK _ ?_); clear hK K) | (apply Exists.intro; (with_reducible refine ⟨fun w' hw' => ?_, hK _ ?_⟩); ((have f0 : w'.cell? ⟨tk, 0, none⟩ = _ := cell_of hw'.tk' rfl; have f3 : w'.cell? ⟨tk, 3, none⟩ = _ := cell_of hw'.tk' rfl; have f4 : w'.cell? ⟨cb, 0, none⟩ = _ := cell_of hw'.col rfl; have f5 : w'.cell? ⟨w.heap.size, 0, none⟩ = _ := cell_of hw'.st rfl; have f1 := hw'.look HL.out.1 HL.out.2; go_simp; first | exact rfl | exact ⟨rfl, rfl⟩)); clear hK K))
  ((with_reducible refine wpRead_step (fun K hK => ?_)); go_simp; first | ((with_reducible refine hK _ ?_); clear hK K) | (apply Exists.intro; (with_reducible refine ⟨fun w' hw' => ?_, hK _ ?_⟩); ((have f0 : w'.cell? ⟨tk, 0, none⟩ = _ := cell_of hw'.tk' rfl; have f3 : w'.cell? ⟨tk, 3, none⟩ = _ := cell_of hw'.tk' rfl; have f4 : w'.cell? ⟨cb, 0, none⟩ = _ := cell_of hw'.col rfl; have f5 : w'.cell? ⟨w.heap.size, 0, none⟩ = _ := cell_of hw'.st rfl; have f1 := hw'.look HL.out.1 HL.out.2; go_simp; first | exact rfl | exact ⟨rfl, rfl⟩)); clear hK K))
  ((with_reducible refine wpRead_step (fun K hK => ?_)); go_simp; first | ((with_reducible refine hK _ ?_); clear hK K) | (apply Exists.intro; (with_reducible refine ⟨fun w' hw' => ?_, hK _ ?_⟩); ((have f0 : w'.cell? ⟨tk, 0, none⟩ = _ := cell_of hw'.tk' rfl; have f3 : w'.cell? ⟨tk, 3, none⟩ = _ := cell_of hw'.tk' rfl; have f4 : w'.cell? ⟨cb, 0, none⟩ = _ := cell_of hw'.col rfl; have f5 : w'.cell? ⟨w.heap.size, 0, none⟩ = _ := cell_of hw'.st rfl; have f1 := hw'.look HL.out.1 HL.out.2; go_simp; first | exact rfl | exact ⟨rfl, rfl⟩)); clear hK K))
  ((with_reducible refine wpRead_step (fun K hK => ?_)); go_simp; first | ((with_reducible refine hK _ ?_); clear hK K) | (apply Exists.intro; (with_reducible refine ⟨fun w' hw' => ?_, hK _ ?_⟩); ((have f0 : w'.cell? ⟨tk, 0, none⟩ = _ := cell_of hw'.tk' rfl; have f3 : w'.cell? ⟨tk, 3, none⟩ = _ := cell_of hw'.tk' rfl; have f4 : w'.cell? ⟨cb, 0, none⟩ = _ := cell_of hw'.col rfl; have f5 : w'.cell? ⟨w.heap.size, 0, none⟩ = _ := cell_of hw'.st rfl; have f1 := hw'.look HL.out.1 HL.out.2; go_simp; first | exact rfl | exact ⟨rfl, rfl⟩)); clear hK K))
  ((with_reducible refine wpRead_step (fun K hK => ?_)); go_simp; first | ((with_reducible refine hK _ ?_); clear hK K) | (apply Exists.intro; (with_reducible refine ⟨fun w' hw' => ?_, hK _ ?_⟩); ((have f0 : w'.cell? ⟨tk, 0, none⟩ = _ := cell_of hw'.tk' rfl; have f3 : w'.cell? ⟨tk, 3, none⟩ = _ := cell_of hw'.tk' rfl; have f4 : w'.cell? ⟨cb, 0, none⟩ = _ := cell_of hw'.col rfl; have f5 : w'.cell? ⟨w.heap.size, 0, none⟩ = _ := cell_of hw'.st rfl; have f1 := hw'.look HL.out.1 HL.out.2; go_simp; first | exact rfl | exact ⟨rfl, rfl⟩)); clear hK K))
  ((with_reducible refine wpRead_step (fun K hK => ?_)); go_simp; first | ((with_reducible refine hK _ ?_); clear hK K) | (apply Exists.intro; (with_reducible refine ⟨fun w' hw' => ?_, hK _ ?_⟩); ((have f0 : w'.cell? ⟨tk, 0, none⟩ = _ := cell_of hw'.tk' rfl; have f3 : w'.cell? ⟨tk, 3, none⟩ = _ := cell_of hw'.tk' rfl; have f4 : w'.cell? ⟨cb, 0, none⟩ = _ := cell_of hw'.col rfl; have f5 : w'.cell? ⟨w.heap.size, 0, none⟩ = _ := cell_of hw'.st rfl; have f1 := hw'.look HL.out.1 HL.out.2; go_simp; first | exact rfl | exact ⟨rfl, rfl⟩)); clear hK K))
  ((with_reducible refine wpRead_step (fun K hK => ?_)); go_simp; first | ((with_reducible refine hK _ ?_); clear hK K) | (apply Exists.intro; (with_reducible refine ⟨fun w' hw' => ?_, hK _ ?_⟩); ((have f0 : w'.cell? ⟨tk, 0, none⟩ = _ := cell_of hw'.tk' rfl; have f3 : w'.cell? ⟨tk, 3, none⟩ = _ := cell_of hw'.tk' rfl; have f4 : w'.cell? ⟨cb, 0, none⟩ = _ := cell_of hw'.col rfl; have f5 : w'.cell? ⟨w.heap.size, 0, none⟩ = _ := cell_of hw'.st rfl; have f1 := hw'.look HL.out.1 HL.out.2; go_simp; first | exact rfl | exact ⟨rfl, rfl⟩)); clear hK K))
  ((with_reducible refine wpRead_step (fun K hK => ?_)); go_simp; first | ((with_reducible refine hK _ ?_); clear hK K) | (apply Exists.intro; (with_reducible refine ⟨fun w' hw' => ?_, hK _ ?_⟩); ((have f0 : w'.cell? ⟨tk, 0, none⟩ = _ := cell_of hw'.tk' rfl; have f3 : w'.cell? ⟨tk, 3, none⟩ = _ := cell_of hw'.tk' rfl; have f4 : w'.cell? ⟨cb, 0, none⟩ = _ := cell_of hw'.col rfl; have f5 : w'.cell? ⟨w.heap.size, 0, none⟩ = _ := cell_of hw'.st rfl; have f1 := hw'.look HL.out.1 HL.out.2; go_simp; first | exact rfl | exact ⟨rfl, rfl⟩)); clear hK K))
  ((with_reducible refine wpRead_step (fun K hK => ?_)); go_simp; first | ((with_reducible refine hK _ ?_); clear hK K) | (apply Exists.intro; (with_reducible refine ⟨fun w' hw' => ?_, hK _ ?_⟩); ((have f0 : w'.cell? ⟨tk, 0, none⟩ = _ := cell_of hw'.tk' rfl; have f3 : w'.cell? ⟨tk, 3, none⟩ = _ := cell_of hw'.tk' rfl; have f4 : w'.cell? ⟨cb, 0, none⟩ = _ := cell_of hw'.col rfl; have f5 : w'.cell? ⟨w.heap.size, 0, none⟩ = _ := cell_of hw'.st rfl; have f1 := hw'.look HL.out.1 HL.out.2; go_simp; first | exact rfl | exact ⟨rfl, rfl⟩)); clear hK K))
  ((with_reducible refine wpRead_step (fun K hK => ?_)); go_simp; first | ((with_reducible refine hK _ ?_); clear hK K) | (apply Exists.intro; (with_reducible refine ⟨fun w' hw' => ?_, hK _ ?_⟩); ((have f0 : w'.cell? ⟨tk, 0, none⟩ = _ := cell_of hw'.tk' rfl; have f3 : w'.cell? ⟨tk, 3, none⟩ = _ := cell_of hw'.tk' rfl; have f4 : w'.cell? ⟨cb, 0, none⟩ = _ := cell_of hw'.col rfl; have f5 : w'.cell? ⟨w.heap.size, 0, none⟩ = _ := cell_of hw'.st rfl; have f1 := hw'.look HL.out.1 HL.out.2; go_simp; first | exact rfl | exact ⟨rfl, rfl⟩)); clear hK K))
  ((with_reducible refine wpRead_step (fun K hK => ?_)); go_simp; first | ((with_reducible refine hK _ ?_); clear hK K) | (apply Exists.intro; (with_reducible refine ⟨fun w' hw' => ?_, hK _ ?_⟩); ((have f0 : w'.cell? ⟨tk, 0, none⟩ = _ := cell_of hw'.tk' rfl; have f3 : w'.cell? ⟨tk, 3, none⟩ = _ := cell_of hw'.tk' rfl; have f4 : w'.cell? ⟨cb, 0, none⟩ = _ := cell_of hw'.col rfl; have f5 : w'.cell? ⟨w.heap.size, 0, none⟩ = _ := cell_of hw'.st rfl; have f1 := hw'.look HL.out.1 HL.out.2; go_simp; first | exact rfl | exact ⟨rfl, rfl⟩)); clear hK K))
  ((with_reducible refine wpRead_step (fun K hK => ?_)); go_simp; first | ((with_reducible refine hK _ ?_); clear hK K) | (apply Exists.intro; (with_reducible refine ⟨fun w' hw' => ?_, hK _ ?_⟩); ((have f0 : w'.cell? ⟨tk, 0, none⟩ = _ := cell_of hw'.tk' rfl; have f3 : w'.cell? ⟨tk, 3, none⟩ = _ := cell_of hw'.tk' rfl; have f4 : w'.cell? ⟨cb, 0, none⟩ = _ := cell_of hw'.col rfl; have f5 : w'.cell? ⟨w.heap.size, 0, none⟩ = _ := cell_of hw'.st rfl; have f1 := hw'.look HL.out.1 HL.out.2; go_simp; first | exact rfl | exact ⟨rfl, rfl⟩)); clear hK K))
  ((with_reducible refine wpRead_step (fun K hK => ?_)); go_simp; first | ((with_reducible refine hK _ ?_); clear hK K) | (apply Exists.intro; (with_reducible refine ⟨fun w' hw' => ?_, hK _ ?_⟩); ((have f0 : w'.cell? ⟨tk, 0, none⟩ = _ := cell_of hw'.tk' rfl; have f3 : w'.cell? ⟨tk, 3, none⟩ = _ := cell_of hw'.tk' rfl; have f4 : w'.cell? ⟨cb, 0, none⟩ = _ := cell_of hw'.col rfl; have f5 : w'.cell? ⟨w.heap.size, 0, none⟩ = _ := cell_of hw'.st rfl; have f1 := hw'.look HL.out.1 HL.out.2; go_simp; first | exact rfl | exact ⟨rfl, rfl⟩)); clear hK K))
  with_reducible refine wpRead_nil ?_
  refine held_one 19 (by kernel_rfl) ?_
  simp only [pick, List.getD_cons_zero, List.getD_cons_succ]
  have hal := (Below.refl V.heap.size V).alloc (Nat.le_refl _) (.cells #[.int .i64 0, .slice none 0 0] 93)
  have FA := Lib.hid (And.intro (bcall F0.out.1 (Nat.le_refl _) hal) (And.intro (F0.out.2.keep hal) (hnew V (.cells #[.int .i64 0, .slice none 0 0] 93))))
  clear hal
  go_wp2_with fail
  refine ⟨FA.out.2.1, ?_⟩
  obtain ⟨q4, hq4⟩ : ∃ q, V.heap.size = q := ⟨_, rfl⟩
  have HQ := Lib.hid hq4
  rw [hq4] at FA
  try rw [hq4]
  clear hq4
  generalize V.alloc (.cells #[.int .i64 0, .slice none 0 0] 93) = V2 at *
  refine held_one 20 (by kernel_rfl) ?_
  simp only [pick, List.getD_cons_zero, List.getD_cons_succ]
  go_wp2_with (with_reducible refine halt_store 93 rfl ?_)
  refine Halted.go ?_
  refine store_whole rfl 93 _ _ rfl q4 #[.int .i64 300, .slice fa 2 fc] rfl rfl FA.out.2.2 rfl (by kernel_rfl) (by simp [Value.oneCell']) ?_
  intro V3 hz hsz
  have hqo : tk ≠ q4 ∧ w.heap.size ≠ q4 ∧ cb ≠ q4 ∧ kb ≠ q4 ∧ w.heap.size ≤ q4 := by
    have h1 := lt_of_blk F0.out.2.tk'
    have h2 := lt_of_blk F0.out.2.st
    have h3 := lt_of_blk F0.out.2.col
    have h4 := lt_of_blk F0.out.2.kn.blk
    have h5 := HQ.out
    omega
  have FB := Lib.hid (And.intro (FA.out.1.trans (hsz.below hqo.2.2.2.2)) (And.intro (show DaS cb kb nb es k1 lost bad tk w.heap.size tm sq dm s1 s2 s3 0 oa n c V3 from ⟨(hsz.other hqo.1).trans FA.out.2.1.tk', (hsz.other hqo.2.2.1).trans FA.out.2.1.col, FA.out.2.1.kn.blk_iff TN (hsz.other hqo.2.2.2.1), (hsz.other hqo.2.1).trans FA.out.2.1.st⟩) hz))
  clear hz hsz hqo
  go_wp2_with fail
  refine ⟨FB.out.2.1, ?_⟩
  refine held_one 21 (by kernel_rfl) ?_
  simp only [pick, List.getD_cons_zero, List.getD_cons_succ]
  go_wp2_with fail
  refine ⟨FB.out.2.1, ?_⟩
  refine wpAnyH_done (by kernel_rfl) ?_ _
  have e0 := cell_of (o := 0) FB.out.2.2 rfl
  have e1 := cell_of (o := 1) FB.out.2.2 rfl
  have e2 : V3.cell? ⟨w.heap.size, 1, none⟩ = some (.slice oa n c) := cell_of FB.out.2.1.st rfl
  go_wp2_with fail
  clear e0 e1 e2
  have hrc := recs_ok ⟨300, ⟨fa, 2, fc, [(12, 4), (1, 4)]⟩⟩ V3 (HB.out.2.2.2.1.keep FB.out.1) (by rw [szT_us]; omega) (HB.out.1.below FB.out.1) HB.out.2.1 (by have := HB.out.2.2.1; omega)
  rw [szT_us, show n / 8 = k from by have := HB.out.2.2.1; omega] at hrc
  refine (show Calls Try.prog 57 #[.agg #[.int .i64 300, .slice fa 2 fc], .slice oa n c] V3 _ from hrc).mono ?_
  rintro e W4 ⟨⟨v4, vs, rfl, ho4, hp4⟩, hb4⟩
  have hbw := bcall FB.out.1 (Nat.le_refl _) hb4
  have htk4 := (hbw.block _ (lt_of_blk HB.out.2.2.2.2)).trans HB.out.2.2.2.2
  have hq44 := (hb4.block _ (lt_of_blk FB.out.2.2)).trans FB.out.2.2
  have hne4 : q4 ≠ tk := fun e => by
    have h1 := lt_of_blk F0.out.2.tk'
    have h5 := HQ.out
    omega
  have hvl : vs.length = k := by rw [hp4.len]; simp [pcs]
  obtain ⟨va, vc, rfl, hvs, hvb⟩ : ∃ oa c, v4 = .slice oa k c ∧ RH.Sl W4 oa k c vs ∧ ∀ b o, oa = some ⟨b, o, none⟩ → V3.heap.size ≤ b := by
    obtain ⟨oa, c, h1, -, -, h2, h3⟩ := ho4.sl
    rw [hvl] at h1 h2
    exact ⟨oa, c, h1, h2, h3⟩
  have e6 : W4.cell? ⟨tk, 6, none⟩ = some (.int .i64 0) := cell_of htk4 rfl
  have f6 : W4.frozen? ⟨tk, 6, none⟩ = false := free_of htk4
  have hset := (SetB.self htk4).store (o := 6) (lt_of_blk htk4) (.int .i64 (k : Int))
  have hz6 := setCell_blk htk4 6 (.int .i64 (k : Int))
  have htkl : tk < V3.heap.size := lt_of_blk FB.out.2.1.tk'
  have hwk : wrap64 (k : Int) = (k : Int) := by unfold wrap64; omega
  have FC := Lib.hid (And.intro hz6 (And.intro ((hset.other hne4).trans hq44) (And.intro (show RH.Sl (W4.setCell ⟨tk, 6, none⟩ (.int .i64 (k : Int))) va k vc vs from ⟨hvs.len, hvs.max, fun h0 => by
    obtain ⟨b, o, e, hr⟩ := hvs.row h0
    exact ⟨b, o, e, hr.keep (hset.other (fun e2 => by have := hvb b o e; omega))⟩⟩) (And.intro (hp4.keep (.of_set hset htk4 (by decide))) (And.intro (show ∀ b o, va = some ⟨b, o, none⟩ → b ≠ tk from fun b o e e2 => by have := hvb b o e; omega) (And.intro hne4 (And.intro ((But.of_below hbw [tk]).trans (But.of_set hset (by simp))) (show ∀ W, But (W4.setCell ⟨tk, 6, none⟩ (.int .i64 (k : Int))) W [tk] → RFd.Sl W fa 2 fc usF from fun W hW => by
    have hsl := HB.out.2.2.2.1.sl
    have hbt := ((But.of_below hbw [tk]).trans (But.of_set hset (by simp))).trans hW
    refine ⟨hsl.len, hsl.max, fun h0 => ?_⟩
    obtain ⟨b, o, e, hr⟩ := hsl.row h0
    have hne : b ≠ tk := fun e2 => by
      have h1 := hr.get 0 (by simp) 0 (by decide)
      have h2 := hr.get 1 (by simp) 1 (by decide)
      rw [e2, cell_blk HB.out.2.2.2.2] at h1 h2
      have h3 := hr.get 0 (by simp) 1 (by decide)
      have h4 := hr.get 1 (by simp) 0 (by decide)
      rw [e2, cell_blk HB.out.2.2.2.2] at h3 h4
      rcases o with _ | _ | _ | _ | o
      · simp [RFd] at h1
      · simp [RFd] at h1 h2 h3 h4
      · simp [RFd] at h1 h2 h3 h4
      · simp [RFd] at h1 h2 h3 h4
      · rcases o with _ | _ | _ | o <;> simp [RFd] at h1 h2 h3 h4
    exact ⟨b, o, e, hr.keep (hbt.block b hr.lt (by simpa using hne))⟩))))))))
  go_wp2_with fail
  clear e6 f6 hwk hset hz6 htkl hvs hvb hvl hne4 hq44 htk4 hbw ho4 hp4 hb4
  generalize W4.setCell ⟨tk, 6, none⟩ (.int .i64 (k : Int)) = W4 at *
  have FQ4 := FC
  go_loopw [61] (fun iv wr => ∃ (i : Nat) (v : Value), i ≤ k ∧ iv = .int .i64 i ∧ wr.heap[tk]? = some (.cells #[.pointer (some ⟨cb, 0, none⟩), .int .i64 tm, .int .i64 sq, .int .i64 dm, .slice s1 s2 s3, v, .int .i64 (k : Int)] 81) ∧ RFl.Own wr W4.heap.size v ((flowsOf dm l k).take i) ∧ But W4 wr [tk]) (fun iv _ => k - (intOf iv).toNat)
  case atStart => exact ⟨0, _, Nat.zero_le _, rfl, FQ4.out.1, Rep.Own.nil _ _, But.refl _ _⟩
  case round =>
    obtain ⟨i, v, hi, rfl, hrep, hown, hbut⟩ := hrel
    obtain ⟨w2, rfl⟩ : ∃ w2 : World, w2 = wr := ⟨_, rfl⟩
    by_cases hlt : i < k
    · have hil : ((i : Int) < (k : Int)) = True := by simp; omega
      have hi0 : ((0 : Int) ≤ (i : Int)) = True := by simp
      have hwi := wrapS hlt (show k ≤ maxLen by unfold maxLen; omega)
      obtain ⟨vb, vo, rfl, hvb, hat⟩ := FQ4.out.2.2.1.at hlt
      have hat2 : RH.At w2 vb (vo + i * 1) (vs.getD i default) := hat.keep (hbut.block _ hvb (by rw [List.mem_singleton]; exact FQ4.out.2.2.2.2.1 vb vo rfl))
      have hpl : (pc 8 l i).length = 8 := by
        unfold pc
        rw [List.length_take, List.length_drop]
        have h1 := HB.out.1.sl.len
        have h2 := HB.out.2.2.1
        omega
      obtain ⟨hb5, hby5⟩ := FQ4.out.2.2.2.1.all i (by simp [pcs]; exact hlt)
      have hpe : (pcs 8 l k).getD i default = pc 8 l i := by simp [pcs, List.getD_eq_getElem?_getD, List.getElem?_map, List.getElem?_range hlt]
      rw [hpe] at hb5 hby5
      obtain ⟨⟨pa, pn, pcap⟩, hpv⟩ : ∃ p, vs.getD i default = p := ⟨_, rfl⟩
      rw [hpv] at hat2 hb5
      dsimp only at hb5
      have hpn : pn = 8 := hb5.sl.len.trans hpl
      subst hpn
      have c0 := hat2 0 (by decide)
      rw [Nat.mul_one, Nat.add_zero] at c0
      simp only [RH, List.getElem?_cons_zero] at c0
      have hlo : ((flowsOf dm l k).take i).length = i := by rw [List.length_take, flowsOf_len]; omega
      obtain ⟨oe, ce, rfl⟩ : ∃ oa c, v = .slice oa i c := by
        obtain ⟨oa, c, h1, -⟩ := hown.sl0
        rw [hlo] at h1
        exact ⟨oa, c, h1⟩
      have hq4 : w2.heap[q4]? = some (.cells #[.int .i64 300, .slice fa 2 fc] 93) := (hbut.block _ (lt_of_blk FQ4.out.2.1) (by rw [List.mem_singleton]; exact FQ4.out.2.2.2.2.2.1)).trans FQ4.out.2.1
      have hfs2 : RFd.Sl w2 fa 2 fc usF := FQ4.out.2.2.2.2.2.2.2 w2 hbut
      have G0 := Lib.hid (And.intro hrep (And.intro hown (And.intro hbut (And.intro hlo (show DbS cb tk q4 tm sq dm s1 s2 s3 (.slice oe i ce) (k : Int) fa fc w2 from ⟨hrep, hq4⟩)))))
      have HP := Lib.hid (And.intro hfs2 (And.intro (rb_but FQ4.out.1 hb5 hbut) (And.intro hb5.le hby5)))
      have HJ := Lib.hid (And.intro hlt hwi)
      clear hrep hown hbut hlo hlt hat hat2 hvb hi hpl hb5 hby5 hpe hpv hq4 hfs2
      go_wp2_with fail
      refine wp_region_heldP (DbS cb tk q4 tm sq dm s1 s2 s3 (.slice oe i ce) (k : Int) fa fc) (by kernel_rfl) ?_
      clear c0
      have hdr := (Below.refl w2.heap.size w2).drew
      have FX := Lib.hid (And.intro hdr (G0.out.2.2.2.2.keep hdr))
      clear hdr
      generalize w2.drew = V at *
      have HF := Lib.hid (fun (W : World) (hW : Below w2.heap.size w2 W) => flow_us (HP.out.1.keep hW) (HP.out.2.1.keep hW) HP.out.2.2.1 HP.out.2.2.2 dm)
      obtain ⟨x, hx⟩ : ∃ x, flowP dm (pc 8 l i) = x := ⟨_, rfl⟩
      have HX := Lib.hid hx
      unfold flowP at hx
      rw [show (getN ((pc 8 l i).take 4)) = x.dst from by rw [← hx], show ((getN ((pc 8 l i).drop 4) : Nat) : Int) = x.by' from by rw [← hx]] at HF
      have HXD := Lib.hid (show x.dom = dm from by rw [← hx])
      clear hx
      have FB := Lib.hid (Below.refl V.heap.size V)
      refine held_reads [0, 1, 2, 3, 4, 5, 6] (g := 7) rfl (by kernel_rfl) FX.out.2 (fun _ _ d _ _ h => by cases d <;> exact h) ?_
      simp only [pick, List.getD_cons_zero, List.getD_cons_succ]
      ((with_reducible refine wpRead_step (fun K hK => ?_)); go_simp; first | ((with_reducible refine hK _ ?_); clear hK K) | (apply Exists.intro; (with_reducible refine ⟨fun w' hw' => ?_, hK _ ?_⟩); ((have f3 : w'.cell? ⟨tk, 3, none⟩ = _ := cell_of hw'.tk' rfl; go_simp; first | exact rfl | exact ⟨rfl, rfl⟩)); clear hK K))
      ((with_reducible refine wpRead_step (fun K hK => ?_)); go_simp; first | ((with_reducible refine hK _ ?_); clear hK K) | (apply Exists.intro; (with_reducible refine ⟨fun w' hw' => ?_, hK _ ?_⟩); ((have f3 : w'.cell? ⟨tk, 3, none⟩ = _ := cell_of hw'.tk' rfl; go_simp; first | exact rfl | exact ⟨rfl, rfl⟩)); clear hK K))
      ((with_reducible refine wpRead_step (fun K hK => ?_)); go_simp; first | ((with_reducible refine hK _ ?_); clear hK K) | (apply Exists.intro; (with_reducible refine ⟨fun w' hw' => ?_, hK _ ?_⟩); ((have f3 : w'.cell? ⟨tk, 3, none⟩ = _ := cell_of hw'.tk' rfl; go_simp; first | exact rfl | exact ⟨rfl, rfl⟩)); clear hK K))
      ((with_reducible refine wpRead_step (fun K hK => ?_)); go_simp; first | ((with_reducible refine hK _ ?_); clear hK K) | (apply Exists.intro; (with_reducible refine ⟨fun w' hw' => ?_, hK _ ?_⟩); ((have f3 : w'.cell? ⟨tk, 3, none⟩ = _ := cell_of hw'.tk' rfl; go_simp; first | exact rfl | exact ⟨rfl, rfl⟩)); clear hK K))
      ((with_reducible refine wpRead_step (fun K hK => ?_)); go_simp; first | ((with_reducible refine hK _ ?_); clear hK K) | (apply Exists.intro; (with_reducible refine ⟨fun w' hw' => ?_, hK _ ?_⟩); ((have f3 : w'.cell? ⟨tk, 3, none⟩ = _ := cell_of hw'.tk' rfl; go_simp; first | exact rfl | exact ⟨rfl, rfl⟩)); clear hK K))
      with_reducible refine wpRead_yes ?_ ?_
      rotate_left
      rfl
      intro K hK
      refine read_load 93 _ rfl q4 0 #[.int .i64 300, .slice fa 2 fc] rfl (fun w' hw' => rangeAt_block hw'.tm' 0 _ rfl) Try.underlying93 rfl (by kernel_rfl) (hK _ ?_)
      clear hK K
      ((with_reducible refine wpRead_step (fun K hK => ?_)); go_simp; first | ((with_reducible refine hK _ ?_); clear hK K) | (apply Exists.intro; (with_reducible refine ⟨fun w' hw' => ?_, hK _ ?_⟩); ((have f3 : w'.cell? ⟨tk, 3, none⟩ = _ := cell_of hw'.tk' rfl; go_simp; first | exact rfl | exact ⟨rfl, rfl⟩)); clear hK K))
      with_reducible refine wpRead_nil ?_
      refine held_two 7 11 (by kernel_rfl) ?_ ?_
      · simp only [pick, List.getD_cons_zero, List.getD_cons_succ]
        go_wp2_with fail
        refine (HF.out _ (bcall FX.out.1 (Nat.le_refl _) FB.out)).mono ?_
        rintro e V1 ⟨rfl, hb⟩
        have F1 := Lib.hid ((bcall FB.out (Nat.le_refl _) hb))
        clear FB
        clear hb
        go_wp2_with fail
        refine ⟨(FX.out.2.keep F1.out), ?_⟩
        refine held_reads [8, 9, 10] (g := 3) rfl (by kernel_rfl) (FX.out.2.keep F1.out) (fun _ _ d _ _ h => by cases d <;> exact h) ?_
        simp only [pick, List.getD_cons_zero, List.getD_cons_succ]
        ((with_reducible refine wpRead_step (fun K hK => ?_)); go_simp; first | ((with_reducible refine hK _ ?_); clear hK K) | (apply Exists.intro; (with_reducible refine ⟨fun w' hw' => ?_, hK _ ?_⟩); (first | exact rfl | exact ⟨rfl, rfl⟩); clear hK K))
        ((with_reducible refine wpRead_step (fun K hK => ?_)); go_simp; first | ((with_reducible refine hK _ ?_); clear hK K) | (apply Exists.intro; (with_reducible refine ⟨fun w' hw' => ?_, hK _ ?_⟩); (first | exact rfl | exact ⟨rfl, rfl⟩); clear hK K))
        ((with_reducible refine wpRead_step (fun K hK => ?_)); go_simp; first | ((with_reducible refine hK _ ?_); clear hK K) | (apply Exists.intro; (with_reducible refine ⟨fun w' hw' => ?_, hK _ ?_⟩); (first | exact rfl | exact ⟨rfl, rfl⟩); clear hK K))
        with_reducible refine wpRead_nil ?_
        refine held_one 11 (by kernel_rfl) ?_
        simp only [pick, List.getD_cons_zero, List.getD_cons_succ]
        have hal := (Below.refl V1.heap.size V1).alloc (Nat.le_refl _) (.cells #[.int .i64 0, .int .u32 0, .int .i64 0] 44)
        have hz7 : (V1.alloc (.cells #[.int .i64 0, .int .u32 0, .int .i64 0] 44)).heap[V1.heap.size]? = some (.cells #[.int .i64 0, .int .u32 0, .int .i64 0] 44) := hnew _ _
        have hq7 : V.heap.size ≤ V1.heap.size := F1.out.size
        obtain ⟨q10, hq⟩ : ∃ q10, V1.heap.size = q10 := ⟨_, rfl⟩
        have hz8 : (V1.alloc (.cells #[.int .i64 0, .int .u32 0, .int .i64 0] 44)).heap[q10]? = some (.cells #[.int .i64 0, .int .u32 0, .int .i64 0] 44) := hq ▸ hz7
        have hq8 : V.heap.size ≤ q10 := hq ▸ hq7
        have F2 := Lib.hid (And.intro (bcall F1.out (Nat.le_refl _) hal) (And.intro hz8 (hq8)))
        clear F1
        clear hal hz7 hq7 hz8 hq8
        go_wp2_with fail
        refine ⟨(FX.out.2.keep F2.out.1), ?_⟩
        clear hq
        generalize V1.alloc (.cells #[.int .i64 0, .int .u32 0, .int .i64 0] 44) = V2 at *
        refine held_one 12 (by kernel_rfl) ?_
        simp only [pick, List.getD_cons_zero, List.getD_cons_succ]
        go_wp2_with (with_reducible refine halt_store 44 rfl ?_)
        refine Halted.go ?_
        refine store_whole rfl 44 _ _ rfl q10 #[.int .i64 dm, .int .u32 (x.dst : Int), .int .i64 x.by'] rfl rfl F2.out.2.1 rfl (by kernel_rfl) (by simp [Value.oneCell']) ?_
        intro V3 hz hsz
        have hbv := F2.out.1.trans (hsz.below F2.out.2.2)
        have hfx : V3.heap[q10]? = some (.cells #[.int .i64 x.dom, .int .u32 (x.dst : Int), .int .i64 x.by'] 44) := by rw [HXD.out]; exact hz
        have F3 := Lib.hid (And.intro hbv (And.intro F2.out.2.2 (hfx)))
        clear F2
        clear hz hsz hbv hfx
        go_wp2_with fail
        refine ⟨(FX.out.2.keep F3.out.1), ?_⟩
        refine held_one 13 (by kernel_rfl) ?_
        simp only [pick, List.getD_cons_zero, List.getD_cons_succ]
        go_wp2_with fail
        refine ⟨(FX.out.2.keep F3.out.1), ?_⟩
        refine wpAnyH_done (by kernel_rfl) ?_ _
        go_wp2_with fail
        refine wp_region_T 10 (DcS cb tk q10 tm sq dm s1 s2 s3 (.slice oe i ce) (k : Int) x) (by kernel_rfl) ?_
        have hb := (Below.refl V3.heap.size V3).drew
        have F4 := Lib.hid (And.intro (bcall F3.out.1 (Nat.le_refl _) hb) (And.intro F3.out.2.1 (((hb.block _ (lt_of_blk F3.out.2.2)).trans F3.out.2.2))))
        clear F3
        clear hb
        generalize V3.drew = V3d at *
        have hS : DcS cb tk q10 tm sq dm s1 s2 s3 (.slice oe i ce) (k : Int) x V3d := ⟨(FX.out.2.keep F4.out.1).tk', F4.out.2.2⟩
        have HS := Lib.hid (And.intro hS (bcall FX.out.1 (Nat.le_refl _) F4.out.1))
        clear hS
        refine T_reads [0, 1, 2, 3, 4, 5] (g := 5) rfl (by kernel_rfl) HS.out.1 (fun _ _ d _ _ h => by cases d <;> exact h) ?_
        simp only [pick, List.getD_cons_zero, List.getD_cons_succ]
        ((with_reducible refine wpRead_step (fun K hK => ?_)); go_simp; first | ((with_reducible refine hK _ ?_); clear hK K) | (apply Exists.intro; (with_reducible refine ⟨fun w' hw' => ?_, hK _ ?_⟩); ((have f5 : w'.cell? ⟨tk, 5, none⟩ = _ := cell_of hw'.tk' rfl; go_simp; first | exact rfl | exact ⟨rfl, rfl⟩)); clear hK K))
        ((with_reducible refine wpRead_step (fun K hK => ?_)); go_simp; first | ((with_reducible refine hK _ ?_); clear hK K) | (apply Exists.intro; (with_reducible refine ⟨fun w' hw' => ?_, hK _ ?_⟩); ((have f5 : w'.cell? ⟨tk, 5, none⟩ = _ := cell_of hw'.tk' rfl; go_simp; first | exact rfl | exact ⟨rfl, rfl⟩)); clear hK K))
        ((with_reducible refine wpRead_step (fun K hK => ?_)); go_simp; first | ((with_reducible refine hK _ ?_); clear hK K) | (apply Exists.intro; (with_reducible refine ⟨fun w' hw' => ?_, hK _ ?_⟩); ((have f5 : w'.cell? ⟨tk, 5, none⟩ = _ := cell_of hw'.tk' rfl; go_simp; first | exact rfl | exact ⟨rfl, rfl⟩)); clear hK K))
        ((with_reducible refine wpRead_step (fun K hK => ?_)); go_simp; first | ((with_reducible refine hK _ ?_); clear hK K) | (apply Exists.intro; (with_reducible refine ⟨fun w' hw' => ?_, hK _ ?_⟩); ((have f5 : w'.cell? ⟨tk, 5, none⟩ = _ := cell_of hw'.tk' rfl; go_simp; first | exact rfl | exact ⟨rfl, rfl⟩)); clear hK K))
        ((with_reducible refine wpRead_step (fun K hK => ?_)); go_simp; first | ((with_reducible refine hK _ ?_); clear hK K) | (apply Exists.intro; (with_reducible refine ⟨fun w' hw' => ?_, hK _ ?_⟩); ((have f5 : w'.cell? ⟨tk, 5, none⟩ = _ := cell_of hw'.tk' rfl; go_simp; first | exact rfl | exact ⟨rfl, rfl⟩)); clear hK K))
        with_reducible refine wpRead_yes ?_ ?_
        rotate_left
        rfl
        intro K hK
        refine read_load 44 _ rfl q10 0 #[.int .i64 x.dom, .int .u32 (x.dst : Int), .int .i64 x.by'] rfl (fun w' hw' => rangeAt_block hw'.fl 0 _ rfl) Try.underlying44 rfl (by kernel_rfl) (hK _ ?_)
        clear hK K
        with_reducible refine wpRead_nil ?_
        refine T_one 6 (by kernel_rfl) ?_
        simp only [pick, List.getD_cons_zero, List.getD_cons_succ]
        have hal := (Below.refl V3d.heap.size V3d).alloc (Nat.le_refl _) (.cells #[.int .i64 x.dom, .int .u32 (x.dst : Int), .int .i64 x.by'] 44)
        have hone : RFl.Sl (V3d.alloc (.cells #[.int .i64 x.dom, .int .u32 (x.dst : Int), .int .i64 x.by'] 44)) (some ⟨V3d.heap.size, 0, none⟩) 1 1 [x] := Rep.sl_one (R := RFl) (y := x) (hnew _ _)
        have H7 := Lib.hid (And.intro (HS.out.1.keep hal) (And.intro (bcall HS.out.2 (Nat.le_refl _) hal) hone))
        clear hal hone
        go_wp2_with fail
        refine ⟨fun _ => H7.out.1, ?_⟩
        generalize V3d.alloc (.cells #[.int .i64 x.dom, .int .u32 (x.dst : Int), .int .i64 x.by'] 44) = V3 at *
        generalize V3d.heap.size = q11 at *
        refine T_one 7 (by kernel_rfl) ?_
        simp only [pick, List.getD_cons_zero, List.getD_cons_succ]
        go_wp2_with (at_builtin; refine halt ?_)
        refine Halted.go ?_
        have hw4 : W4.heap.size ≤ V3.heap.size := Nat.le_trans G0.out.2.2.1.size H7.out.2.1.size
        refine Rep.append_list TFl rfl _ _ rfl rfl (G0.out.2.1.below H7.out.2.1) rfl H7.out.2.2 (fun h => by cases h) (by rw [G0.out.2.2.2.1]; have := HJ.out.1; unfold maxLen; omega) (by rw [G0.out.2.2.2.1]; have := HJ.out.1; omega) hw4 ?_
        intro v8 V4 hown8 hb8 hgr
        have htkn : (flowsOf dm l k).take i ++ [x] = (flowsOf dm l k).take (i + 1) := by
          rw [takeS (by rw [flowsOf_len]; exact HJ.out.1), flowsOf_get HJ.out.1, HX.out]
        rw [htkn] at hown8
        obtain ⟨o8, c8, rfl, -, -⟩ := hown8.sl0
        have hl8 : ((flowsOf dm l k).take (i + 1)).length = i + 1 := by rw [List.length_take, flowsOf_len]; have := HJ.out.1; omega
        rw [hl8] at hown8 ⊢
        have hbox8 := (hgr.block _ (lt_of_blk H7.out.1.fl) (fun e2 => by
          obtain ⟨cur, hcur⟩ := own_cellsG G0.out.2.1 e2.symm
          have h1 := lt_of_blk hcur
          have h2 := F4.out.2.1
          have h3 := FX.out.1.size
          omega)).trans H7.out.1.fl
        have htw : tk < W4.heap.size := lt_of_blk FQ4.out.1
        have htk8 := (hb8.block _ htw).trans H7.out.1.tk'
        have H8 := Lib.hid (And.intro (show DcS cb tk q10 tm sq dm s1 s2 s3 (.slice oe i ce) (k : Int) x V4 from ⟨htk8, hbox8⟩) (And.intro hown8 (And.intro (Rep.But.step (G0.out.2.2.1.trans (But.of_below H7.out.2.1 _)) hb8 (Nat.le_refl _)) htw)))
        clear hown8 hb8 hgr htkn hl8 hbox8 htk8 hw4 htw
        go_wp2_with fail
        refine ⟨fun _ => H8.out.1, ?_⟩
        refine T_reads [8, 9] (g := 1) rfl (by kernel_rfl) H8.out.1 (fun _ _ d _ _ h => by cases d <;> exact h) ?_
        simp only [pick, List.getD_cons_zero, List.getD_cons_succ]
        ((with_reducible refine wpRead_step (fun K hK => ?_)); go_simp; first | ((with_reducible refine hK _ ?_); clear hK K) | (apply Exists.intro; (with_reducible refine ⟨fun w' hw' => ?_, hK _ ?_⟩); (first | exact rfl | exact ⟨rfl, rfl⟩); clear hK K))
        ((with_reducible refine wpRead_step (fun K hK => ?_)); go_simp; first | ((with_reducible refine hK _ ?_); clear hK K) | (apply Exists.intro; (with_reducible refine ⟨fun w' hw' => ?_, hK _ ?_⟩); (first | exact rfl | exact ⟨rfl, rfl⟩); clear hK K))
        with_reducible refine wpRead_nil ?_
        have f7 := free_of (o := 5) H8.out.1.tk'
        have e7 := cell_of (o := 5) H8.out.1.tk' rfl
        refine T_one 10 (by kernel_rfl) ?_
        simp only [pick, List.getD_cons_zero, List.getD_cons_succ]
        go_wp2_with fail
        refine ⟨fun h => absurd rfl h, ?_⟩
        refine T_done (by kernel_rfl) ?_ _
        clear f7 e7
        have hset := (SetB.self H8.out.1.tk').store (o := 5) (lt_of_blk H8.out.1.tk') (.slice o8 (i + 1) c8)
        have h7z := setCell_blk H8.out.1.tk' 5 (.slice o8 (i + 1) c8)
        have H9 := Lib.hid (And.intro h7z (And.intro (H8.out.2.1.keep (fun b hb => hset.other (fun e => by have := own_ge H8.out.2.1 hb; have := H8.out.2.2.2; omega))) (H8.out.2.2.1.thenSet hset (.inr (by simp)))))
        clear hset h7z
        go_wp2_with fail
        exact ⟨⟨i + 1, _, HJ.out.1, by first | rw [HJ.out.2] | rw [Int.natCast_succ], H9.out.1, by first | exact H9.out.2.1 | (rw [Int.natCast_succ] at *; exact H9.out.2.1), H9.out.2.2⟩, by first | (rw [HJ.out.2]; exact mSucc HJ.out.1) | (rw [← Int.natCast_succ]; exact mSucc HJ.out.1)⟩
      · simp only [pick, List.getD_cons_zero, List.getD_cons_succ]
        have hal := (Below.refl V.heap.size V).alloc (Nat.le_refl _) (.cells #[.int .i64 0, .int .u32 0, .int .i64 0] 44)
        have hz7 : (V.alloc (.cells #[.int .i64 0, .int .u32 0, .int .i64 0] 44)).heap[V.heap.size]? = some (.cells #[.int .i64 0, .int .u32 0, .int .i64 0] 44) := hnew _ _
        have hq7 : V.heap.size ≤ V.heap.size := FB.out.size
        obtain ⟨q10, hq⟩ : ∃ q10, V.heap.size = q10 := ⟨_, rfl⟩
        have hz8 : (V.alloc (.cells #[.int .i64 0, .int .u32 0, .int .i64 0] 44)).heap[q10]? = some (.cells #[.int .i64 0, .int .u32 0, .int .i64 0] 44) := hq ▸ hz7
        have hq8 : V.heap.size ≤ q10 := hq ▸ hq7
        have F5 := Lib.hid (And.intro (bcall FB.out (Nat.le_refl _) hal) (And.intro hz8 (hq8)))
        clear FB
        clear hal hz7 hq7 hz8 hq8
        go_wp2_with fail
        refine ⟨(FX.out.2.keep F5.out.1), ?_⟩
        clear hq
        generalize V.alloc (.cells #[.int .i64 0, .int .u32 0, .int .i64 0] 44) = V4 at *
        refine held_one 7 (by kernel_rfl) ?_
        simp only [pick, List.getD_cons_zero, List.getD_cons_succ]
        go_wp2_with fail
        refine (HF.out _ (bcall FX.out.1 (Nat.le_refl _) F5.out.1)).mono ?_
        rintro e V5 ⟨rfl, hb⟩
        have F6 := Lib.hid (And.intro (bcall F5.out.1 (Nat.le_refl _) hb) (And.intro ((hb.block _ (lt_of_blk F5.out.2.1)).trans F5.out.2.1) (F5.out.2.2)))
        clear F5
        clear hb
        go_wp2_with fail
        refine ⟨(FX.out.2.keep F6.out.1), ?_⟩
        refine held_reads [8, 9, 10] (g := 2) rfl (by kernel_rfl) (FX.out.2.keep F6.out.1) (fun _ _ d _ _ h => by cases d <;> exact h) ?_
        simp only [pick, List.getD_cons_zero, List.getD_cons_succ]
        ((with_reducible refine wpRead_step (fun K hK => ?_)); go_simp; first | ((with_reducible refine hK _ ?_); clear hK K) | (apply Exists.intro; (with_reducible refine ⟨fun w' hw' => ?_, hK _ ?_⟩); (first | exact rfl | exact ⟨rfl, rfl⟩); clear hK K))
        ((with_reducible refine wpRead_step (fun K hK => ?_)); go_simp; first | ((with_reducible refine hK _ ?_); clear hK K) | (apply Exists.intro; (with_reducible refine ⟨fun w' hw' => ?_, hK _ ?_⟩); (first | exact rfl | exact ⟨rfl, rfl⟩); clear hK K))
        ((with_reducible refine wpRead_step (fun K hK => ?_)); go_simp; first | ((with_reducible refine hK _ ?_); clear hK K) | (apply Exists.intro; (with_reducible refine ⟨fun w' hw' => ?_, hK _ ?_⟩); (first | exact rfl | exact ⟨rfl, rfl⟩); clear hK K))
        with_reducible refine wpRead_nil ?_
        refine held_one 12 (by kernel_rfl) ?_
        simp only [pick, List.getD_cons_zero, List.getD_cons_succ]
        go_wp2_with (with_reducible refine halt_store 44 rfl ?_)
        refine Halted.go ?_
        refine store_whole rfl 44 _ _ rfl q10 #[.int .i64 dm, .int .u32 (x.dst : Int), .int .i64 x.by'] rfl rfl F6.out.2.1 rfl (by kernel_rfl) (by simp [Value.oneCell']) ?_
        intro V6 hz hsz
        have hbv := F6.out.1.trans (hsz.below F6.out.2.2)
        have hfx : V6.heap[q10]? = some (.cells #[.int .i64 x.dom, .int .u32 (x.dst : Int), .int .i64 x.by'] 44) := by rw [HXD.out]; exact hz
        have F7 := Lib.hid (And.intro hbv (And.intro F6.out.2.2 (hfx)))
        clear F6
        clear hz hsz hbv hfx
        go_wp2_with fail
        refine ⟨(FX.out.2.keep F7.out.1), ?_⟩
        refine held_one 13 (by kernel_rfl) ?_
        simp only [pick, List.getD_cons_zero, List.getD_cons_succ]
        go_wp2_with fail
        refine ⟨(FX.out.2.keep F7.out.1), ?_⟩
        refine wpAnyH_done (by kernel_rfl) ?_ _
        go_wp2_with fail
        refine wp_region_T 10 (DcS cb tk q10 tm sq dm s1 s2 s3 (.slice oe i ce) (k : Int) x) (by kernel_rfl) ?_
        have hb := (Below.refl V6.heap.size V6).drew
        have F8 := Lib.hid (And.intro (bcall F7.out.1 (Nat.le_refl _) hb) (And.intro F7.out.2.1 (((hb.block _ (lt_of_blk F7.out.2.2)).trans F7.out.2.2))))
        clear F7
        clear hb
        generalize V6.drew = V6d at *
        have hS : DcS cb tk q10 tm sq dm s1 s2 s3 (.slice oe i ce) (k : Int) x V6d := ⟨(FX.out.2.keep F8.out.1).tk', F8.out.2.2⟩
        have HS := Lib.hid (And.intro hS (bcall FX.out.1 (Nat.le_refl _) F8.out.1))
        clear hS
        refine T_reads [0, 1, 2, 3, 4, 5] (g := 5) rfl (by kernel_rfl) HS.out.1 (fun _ _ d _ _ h => by cases d <;> exact h) ?_
        simp only [pick, List.getD_cons_zero, List.getD_cons_succ]
        ((with_reducible refine wpRead_step (fun K hK => ?_)); go_simp; first | ((with_reducible refine hK _ ?_); clear hK K) | (apply Exists.intro; (with_reducible refine ⟨fun w' hw' => ?_, hK _ ?_⟩); ((have f5 : w'.cell? ⟨tk, 5, none⟩ = _ := cell_of hw'.tk' rfl; go_simp; first | exact rfl | exact ⟨rfl, rfl⟩)); clear hK K))
        ((with_reducible refine wpRead_step (fun K hK => ?_)); go_simp; first | ((with_reducible refine hK _ ?_); clear hK K) | (apply Exists.intro; (with_reducible refine ⟨fun w' hw' => ?_, hK _ ?_⟩); ((have f5 : w'.cell? ⟨tk, 5, none⟩ = _ := cell_of hw'.tk' rfl; go_simp; first | exact rfl | exact ⟨rfl, rfl⟩)); clear hK K))
        ((with_reducible refine wpRead_step (fun K hK => ?_)); go_simp; first | ((with_reducible refine hK _ ?_); clear hK K) | (apply Exists.intro; (with_reducible refine ⟨fun w' hw' => ?_, hK _ ?_⟩); ((have f5 : w'.cell? ⟨tk, 5, none⟩ = _ := cell_of hw'.tk' rfl; go_simp; first | exact rfl | exact ⟨rfl, rfl⟩)); clear hK K))
        ((with_reducible refine wpRead_step (fun K hK => ?_)); go_simp; first | ((with_reducible refine hK _ ?_); clear hK K) | (apply Exists.intro; (with_reducible refine ⟨fun w' hw' => ?_, hK _ ?_⟩); ((have f5 : w'.cell? ⟨tk, 5, none⟩ = _ := cell_of hw'.tk' rfl; go_simp; first | exact rfl | exact ⟨rfl, rfl⟩)); clear hK K))
        ((with_reducible refine wpRead_step (fun K hK => ?_)); go_simp; first | ((with_reducible refine hK _ ?_); clear hK K) | (apply Exists.intro; (with_reducible refine ⟨fun w' hw' => ?_, hK _ ?_⟩); ((have f5 : w'.cell? ⟨tk, 5, none⟩ = _ := cell_of hw'.tk' rfl; go_simp; first | exact rfl | exact ⟨rfl, rfl⟩)); clear hK K))
        with_reducible refine wpRead_yes ?_ ?_
        rotate_left
        rfl
        intro K hK
        refine read_load 44 _ rfl q10 0 #[.int .i64 x.dom, .int .u32 (x.dst : Int), .int .i64 x.by'] rfl (fun w' hw' => rangeAt_block hw'.fl 0 _ rfl) Try.underlying44 rfl (by kernel_rfl) (hK _ ?_)
        clear hK K
        with_reducible refine wpRead_nil ?_
        refine T_one 6 (by kernel_rfl) ?_
        simp only [pick, List.getD_cons_zero, List.getD_cons_succ]
        have hal := (Below.refl V6d.heap.size V6d).alloc (Nat.le_refl _) (.cells #[.int .i64 x.dom, .int .u32 (x.dst : Int), .int .i64 x.by'] 44)
        have hone : RFl.Sl (V6d.alloc (.cells #[.int .i64 x.dom, .int .u32 (x.dst : Int), .int .i64 x.by'] 44)) (some ⟨V6d.heap.size, 0, none⟩) 1 1 [x] := Rep.sl_one (R := RFl) (y := x) (hnew _ _)
        have H7 := Lib.hid (And.intro (HS.out.1.keep hal) (And.intro (bcall HS.out.2 (Nat.le_refl _) hal) hone))
        clear hal hone
        go_wp2_with fail
        refine ⟨fun _ => H7.out.1, ?_⟩
        generalize V6d.alloc (.cells #[.int .i64 x.dom, .int .u32 (x.dst : Int), .int .i64 x.by'] 44) = V3 at *
        generalize V6d.heap.size = q11 at *
        refine T_one 7 (by kernel_rfl) ?_
        simp only [pick, List.getD_cons_zero, List.getD_cons_succ]
        go_wp2_with (at_builtin; refine halt ?_)
        refine Halted.go ?_
        have hw4 : W4.heap.size ≤ V3.heap.size := Nat.le_trans G0.out.2.2.1.size H7.out.2.1.size
        refine Rep.append_list TFl rfl _ _ rfl rfl (G0.out.2.1.below H7.out.2.1) rfl H7.out.2.2 (fun h => by cases h) (by rw [G0.out.2.2.2.1]; have := HJ.out.1; unfold maxLen; omega) (by rw [G0.out.2.2.2.1]; have := HJ.out.1; omega) hw4 ?_
        intro v8 V4 hown8 hb8 hgr
        have htkn : (flowsOf dm l k).take i ++ [x] = (flowsOf dm l k).take (i + 1) := by
          rw [takeS (by rw [flowsOf_len]; exact HJ.out.1), flowsOf_get HJ.out.1, HX.out]
        rw [htkn] at hown8
        obtain ⟨o8, c8, rfl, -, -⟩ := hown8.sl0
        have hl8 : ((flowsOf dm l k).take (i + 1)).length = i + 1 := by rw [List.length_take, flowsOf_len]; have := HJ.out.1; omega
        rw [hl8] at hown8 ⊢
        have hbox8 := (hgr.block _ (lt_of_blk H7.out.1.fl) (fun e2 => by
          obtain ⟨cur, hcur⟩ := own_cellsG G0.out.2.1 e2.symm
          have h1 := lt_of_blk hcur
          have h2 := F8.out.2.1
          have h3 := FX.out.1.size
          omega)).trans H7.out.1.fl
        have htw : tk < W4.heap.size := lt_of_blk FQ4.out.1
        have htk8 := (hb8.block _ htw).trans H7.out.1.tk'
        have H8 := Lib.hid (And.intro (show DcS cb tk q10 tm sq dm s1 s2 s3 (.slice oe i ce) (k : Int) x V4 from ⟨htk8, hbox8⟩) (And.intro hown8 (And.intro (Rep.But.step (G0.out.2.2.1.trans (But.of_below H7.out.2.1 _)) hb8 (Nat.le_refl _)) htw)))
        clear hown8 hb8 hgr htkn hl8 hbox8 htk8 hw4 htw
        go_wp2_with fail
        refine ⟨fun _ => H8.out.1, ?_⟩
        refine T_reads [8, 9] (g := 1) rfl (by kernel_rfl) H8.out.1 (fun _ _ d _ _ h => by cases d <;> exact h) ?_
        simp only [pick, List.getD_cons_zero, List.getD_cons_succ]
        ((with_reducible refine wpRead_step (fun K hK => ?_)); go_simp; first | ((with_reducible refine hK _ ?_); clear hK K) | (apply Exists.intro; (with_reducible refine ⟨fun w' hw' => ?_, hK _ ?_⟩); (first | exact rfl | exact ⟨rfl, rfl⟩); clear hK K))
        ((with_reducible refine wpRead_step (fun K hK => ?_)); go_simp; first | ((with_reducible refine hK _ ?_); clear hK K) | (apply Exists.intro; (with_reducible refine ⟨fun w' hw' => ?_, hK _ ?_⟩); (first | exact rfl | exact ⟨rfl, rfl⟩); clear hK K))
        with_reducible refine wpRead_nil ?_
        have f7 := free_of (o := 5) H8.out.1.tk'
        have e7 := cell_of (o := 5) H8.out.1.tk' rfl
        refine T_one 10 (by kernel_rfl) ?_
        simp only [pick, List.getD_cons_zero, List.getD_cons_succ]
        go_wp2_with fail
        refine ⟨fun h => absurd rfl h, ?_⟩
        refine T_done (by kernel_rfl) ?_ _
        clear f7 e7
        have hset := (SetB.self H8.out.1.tk').store (o := 5) (lt_of_blk H8.out.1.tk') (.slice o8 (i + 1) c8)
        have h7z := setCell_blk H8.out.1.tk' 5 (.slice o8 (i + 1) c8)
        have H9 := Lib.hid (And.intro h7z (And.intro (H8.out.2.1.keep (fun b hb => hset.other (fun e => by have := own_ge H8.out.2.1 hb; have := H8.out.2.2.2; omega))) (H8.out.2.2.1.thenSet hset (.inr (by simp)))))
        clear hset h7z
        go_wp2_with fail
        exact ⟨⟨i + 1, _, HJ.out.1, by first | rw [HJ.out.2] | rw [Int.natCast_succ], H9.out.1, by first | exact H9.out.2.1 | (rw [Int.natCast_succ] at *; exact H9.out.2.1), H9.out.2.2⟩, by first | (rw [HJ.out.2]; exact mSucc HJ.out.1) | (rw [← Int.natCast_succ]; exact mSucc HJ.out.1)⟩
    · obtain rfl : i = k := by omega
      have hil : ((i : Int) < (i : Int)) = False := by simp
      rw [List.take_of_length_le (by rw [flowsOf_len]; exact Nat.le_refl _)] at hown
      have hw4 : w.heap.size ≤ W4.heap.size := FQ4.out.2.2.2.2.2.2.1.size
      have G0 := Lib.hid (And.intro hrep (And.intro (hown.mono hw4) (FQ4.out.2.2.2.2.2.2.1.trans hbut)))
      clear hrep hown hbut hw4
      go_wp2_with fail
      go_end0
      exact ⟨rfl, ⟨_, G0.out.1, G0.out.2.1⟩, G0.out.2.2⟩
end Go.Proofs.Ytcbpdjenncbbeaa.Ip

