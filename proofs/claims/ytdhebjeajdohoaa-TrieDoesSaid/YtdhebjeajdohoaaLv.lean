/- lives. -/
import Derived.Test.YtdhebjeajdohoaaSh
import Derived.Test.YtdhebjeajdohoaaRc
import Derived.Test.YtdhebjeajdohoaaTq
namespace Go.Proofs.Ytdhebjeajdohoaa
open Go.RowKit

def sa : ByteArray := ⟨#[97]⟩
def sb : ByteArray := ⟨#[98]⟩
def M1 : Nat → Nat → Option ByteArray := upd (fun _ _ => none) 167837696 16 (some sb)
def M2 : Nat → Nat → Option ByteArray := upd M1 167772160 8 (some sa)
def M3 : Nat → Nat → Option ByteArray := upd M2 167772160 8 none
theorem ref2 : RefOk [((167772160, 8), sa), ((167837696, 16), sb)] M2 := by
  refine ⟨by simp [ltK], ?_, fun x d v => ?_⟩
  · intro e he
    rcases List.mem_cons.1 he with rfl | he
    · exact ⟨by decide, by decide, by decide⟩
    · obtain rfl := List.mem_singleton.1 he
      exact ⟨by decide, by decide, by decide⟩
  · unfold M2 M1 upd
    simp only [List.mem_cons, List.not_mem_nil, or_false, Prod.mk.injEq]
    split
    · rename_i h; obtain ⟨rfl, rfl⟩ := h; simp [eq_comm]
    · rename_i h
      split
      · rename_i h2; obtain ⟨rfl, rfl⟩ := h2; simp [eq_comm]
      · rename_i h2; simp [h, h2]
theorem ref3 : RefOk [((167837696, 16), sb)] M3 := by
  refine ⟨by simp, ?_, fun x d v => ?_⟩
  · intro e he
    obtain rfl := List.mem_singleton.1 he
    exact ⟨by decide, by decide, by decide⟩
  · unfold M3 M2 M1 upd
    simp only [List.mem_cons, List.not_mem_nil, or_false, Prod.mk.injEq]
    split
    · rename_i h; obtain ⟨rfl, rfl⟩ := h; simp
    · rename_i h
      split
      · rename_i h2; obtain ⟨rfl, rfl⟩ := h2; simp [eq_comm]
      · rename_i h2; simp [h2]
theorem held2a : heldS M2 167772160 8 = [(167772160, 8), (167837696, 16)] := by rw [show heldS M2 167772160 8 = heldG M2 167772160 8 from rfl, held_filter ref2 _ _ (by decide)]; decide
theorem held2b : heldS M2 167837696 16 = [(167837696, 16)] := by rw [show heldS M2 167837696 16 = heldG M2 167837696 16 from rfl, held_filter ref2 _ _ (by decide)]; decide
theorem held3 : heldS M3 0 0 = [(167837696, 16)] := by rw [show heldS M3 0 0 = heldG M3 0 0 from rfl, held_filter ref3 _ _ (by decide)]; decide
theorem lng2 : lng M2 167837701 33 = some 16 := by kernel_rfl
theorem sl_two (w : World) (a n b m : Nat) : RP.Sl (w.alloc (.cells #[.int .u32 a, .int .i64 n, .int .u32 b, .int .i64 m] 32)) (some ⟨w.heap.size, 0, none⟩) 2 2 [(a, n), (b, m)] :=
  ⟨rfl, by unfold maxLen; omega, fun _ => ⟨_, _, rfl, by simp, fun i hi j hj => by
    have hb := hnew w (.cells #[.int .u32 a, .int .i64 n, .int .u32 b, .int .i64 m] 32)
    have hi' : i < 2 := hi
    have hj' : j < 2 := hj
    have e : (w.alloc (.cells #[.int .u32 a, .int .i64 n, .int .u32 b, .int .i64 m] 32)).cell? ⟨w.heap.size, 0 + i * 2 + j, none⟩ = #[Value.int .u32 a, .int .i64 n, .int .u32 b, .int .i64 m][0 + i * 2 + j]? := by
      simp only [World.cell?, hb, Option.isSome_none, Bool.false_eq_true, if_false]
    show (w.alloc (.cells #[.int .u32 a, .int .i64 n, .int .u32 b, .int .i64 m] 32)).cell? ⟨w.heap.size, 0 + i * 2 + j, none⟩ = _
    rw [e]
    match i, j, hi', hj' with
    | 0, 0, _, _ => rfl
    | 0, 1, _, _ => rfl
    | 1, 0, _, _ => rfl
    | 1, 1, _, _ => rfl⟩⟩
theorem sl_one (w : World) (a n : Nat) : RP.Sl (w.alloc (.cells #[.int .u32 a, .int .i64 n] 32)) (some ⟨w.heap.size, 0, none⟩) 1 1 [(a, n)] :=
  ⟨rfl, by unfold maxLen; omega, fun _ => ⟨_, _, rfl, by simp, fun i hi j hj => by
    have hb := hnew w (.cells #[.int .u32 a, .int .i64 n] 32)
    have hi' : i < 1 := hi
    have hj' : j < 2 := hj
    have e : (w.alloc (.cells #[.int .u32 a, .int .i64 n] 32)).cell? ⟨w.heap.size, 0 + i * 2 + j, none⟩ = #[Value.int .u32 a, .int .i64 n][0 + i * 2 + j]? := by
      simp only [World.cell?, hb, Option.isSome_none, Bool.false_eq_true, if_false]
    show (w.alloc (.cells #[.int .u32 a, .int .i64 n] 32)).cell? ⟨w.heap.size, 0 + i * 2 + j, none⟩ = _
    rw [e]
    match i, j, hi', hj' with
    | 0, 0, _, _ => rfl
    | 0, 1, _, _ => rfl⟩⟩
/-- what lies outside a trie -/
theorem Moved.out {w w' : World} {F F' : Nat → Prop} (h : Moved w w' F F') {k : Nat} (hk : k < w.heap.size) (hn : ¬ F k) : k < w'.heap.size ∧ ¬ F' k ∧ w'.heap[k]? = w.heap[k]? :=
  ⟨Nat.lt_of_lt_of_le hk h.size, fun hf => by rcases h.foot k hf with h1 | h1; exact hn h1; omega, h.same k hk hn⟩
/-- a slice that lies outside a trie -/
structure OwnOut (w : World) (F : Nat → Prop) (base : Nat) (v : Value) (L : List (Nat × Nat)) : Prop where
  own : RP.Own w base v L
  out : ∀ g, v.ownBlock = some g → g < w.heap.size ∧ ¬ F g
theorem OwnOut.moved {w w' : World} {F F' : Nat → Prop} {base : Nat} {v : Value} {L : List (Nat × Nat)} (h : OwnOut w F base v L) (hm : Moved w w' F F') : OwnOut w' F' base v L :=
  ⟨h.own.keep fun g hg => (hm.out (h.out g hg).1 (h.out g hg).2).2.2, fun g hg => ⟨(hm.out (h.out g hg).1 (h.out g hg).2).1, (hm.out (h.out g hg).1 (h.out g hg).2).2.1⟩⟩
theorem OwnOut.new {w w' : World} {F : Nat → Prop} {v : Value} {L : List (Nat × Nat)} (h : RP.Own w' w.heap.size v L) (hF : ∀ k, F k → k < w.heap.size) : OwnOut w' F w.heap.size v L :=
  ⟨h, fun g hg => by
    rcases h.cases with ⟨rfl, _⟩ | ⟨g', cap, rfl, h1, h2, _⟩
    · cases hg
    · have e : g' = g := by injection hg
      subst e
      exact ⟨h2, fun hf => by have := hF _ hf; omega⟩⟩
/-- where lives stands -/
structure LvI (w : World) (b p q : Nat) (w' : World) (N : Nat → Nat → Option Nat) (n : Nat) (M : Nat → Nat → Option ByteArray) : Prop where
  trie : TrieS w' b N n M
  ha : w'.heap[p]? = some (.cells #[.int .u32 167772160, .int .i64 8] 32)
  hb : w'.heap[q]? = some (.cells #[.int .u32 167837696, .int .i64 16] 32)
  below : Below w.heap.size w w'
  ft : ∀ k, foot b N k → k ≠ p ∧ k ≠ q ∧ w.heap.size ≤ k
theorem LvI.moved {w : World} {b p q : Nat} {w' w2 : World} {N N' : Nat → Nat → Option Nat} {n n' : Nat} {M M' : Nat → Nat → Option ByteArray} (h : LvI w b p q w' N n M) (hm : Moved w' w2 (foot b N) (foot b N')) (ht : TrieS w2 b N' n' M') : LvI w b p q w2 N' n' M' :=
  ⟨ht, (hm.same p (lt_of_blk h.ha) (fun hf => (h.ft p hf).1 rfl)).trans h.ha, (hm.same q (lt_of_blk h.hb) (fun hf => (h.ft q hf).2.1 rfl)).trans h.hb,
   h.below.trans (hm.below h.below.size (fun k hk => (h.ft k hk).2.2)), fun k hk => by
    rcases hm.foot k hk with h1 | h1
    · exact h.ft k h1
    · have h2 := lt_of_blk h.ha
      have h3 := lt_of_blk h.hb
      have h4 := h.below.size
      exact ⟨by omega, by omega, by omega⟩⟩
theorem LvI.on {w : World} {b p q : Nat} {w' w2 : World} {N : Nat → Nat → Option Nat} {n : Nat} {M : Nat → Nat → Option ByteArray} (h : LvI w b p q w' N n M) (hb : Below w'.heap.size w' w2) : LvI w b p q w2 N n M :=
  h.moved (Moved.of_below hb _) (h.trie.below hb)
def LvS (p q : Nat) (w' : World) : Prop := w'.heap[p]? = some (.cells #[.int .u32 167772160, .int .i64 8] 32) ∧ w'.heap[q]? = some (.cells #[.int .u32 167837696, .int .i64 16] 32)
theorem LvS.cells {p q : Nat} {w : World} (h : LvS p q w) : w.cell? ⟨p, 0, none⟩ = some (.int .u32 167772160) ∧ w.cell? ⟨p, 1, none⟩ = some (.int .i64 8) ∧ w.cell? ⟨q, 0, none⟩ = some (.int .u32 167837696) ∧ w.cell? ⟨q, 1, none⟩ = some (.int .i64 16) := ⟨cell_of h.1 rfl, cell_of h.1 rfl, cell_of h.2 rfl, cell_of h.2 rfl⟩
theorem LvI.s {w : World} {b p q : Nat} {w' : World} {N : Nat → Nat → Option Nat} {n : Nat} {M : Nat → Nat → Option ByteArray} (h : LvI w b p q w' N n M) : LvS p q w' := ⟨h.ha, h.hb⟩
set_option maxRecDepth 100000 in
set_option maxHeartbeats 4000000 in
theorem lives_any (w : World) : Calls Try.prog 9 #[] w fun e w' => e = .returned (.bool true) ∧ Below w.heap.size w w' := by
  go_enter Try.func9, Try.ntmps9
  go_wp2_with (go_at_call 28; refine (newS_any _).mono ?_; rintro e w1 ⟨rfl, ht1, hb1⟩)
  have hI : LvI w (w.heap.size + 1) w1.heap.size (w1.heap.size + 1) (((w1.alloc (.cells #[.int .u32 167772160, .int .i64 8] 32)).alloc (.cells #[.int .u32 167837696, .int .i64 16] 32)).drew) (fun a d => if a = 0 ∧ d = 0 then some w.heap.size else none) 0 (fun _ _ => none) := by
    have hb2 : Below w1.heap.size w1 (((w1.alloc (.cells #[.int .u32 167772160, .int .i64 8] 32)).alloc (.cells #[.int .u32 167837696, .int .i64 16] 32)).drew) := (((Below.refl _ _).alloc (Nat.le_refl _) _).alloc (by simp) _).drew
    refine ⟨ht1.below hb2, hold (hnew _ _), hnewAt (by simp), hb1.trans (hb2.mono hb1.size), fun k hk => ?_⟩
    have h1 := ht1.lt hk
    refine ⟨by omega, by omega, ?_⟩
    rcases hk with rfl | ⟨x, d, hk⟩
    · omega
    · dsimp only at hk
      split at hk
      · injection hk with hk; omega
      · cases hk
  generalize (fun (a d : Nat) => if a = 0 ∧ d = 0 then some w.heap.size else none) = N0 at hI
  clear ht1 hb1
  refine wp_region_heldP (LvS w1.heap.size (w1.heap.size + 1)) (by kernel_rfl) ?_
  generalize ((w1.alloc (.cells #[.int .u32 167772160, .int .i64 8] 32)).alloc (.cells #[.int .u32 167837696, .int .i64 16] 32)).drew = w2 at hI ⊢
  generalize w1.heap.size = p at hI ⊢
  generalize hbn : w.heap.size + 1 = b at hI ⊢
  refine held_reads [0, 1, 3, 4, 6, 7] (g := 6) rfl (by kernel_rfl) hI.s (fun _ _ d _ _ h => by cases d <;> exact h) ?_
  simp only [pick, List.getD_cons_zero, List.getD_cons_succ]
  iterate 6 ((with_reducible refine wpRead_step (fun K hK => ?_)); go_simp; first | ((with_reducible refine hK _ ?_); clear hK K) | (apply Exists.intro; (with_reducible refine ⟨fun w' hw' => ?_, hK _ ?_⟩); (obtain ⟨c0, c1, c2, c3⟩ := hw'.cells; go_simp; first | exact rfl | exact ⟨rfl, rfl⟩); clear hK K))
  with_reducible refine wpRead_nil ?_
  refine held_one 2 (by kernel_rfl) ?_
  simp only [pick, List.getD_cons_zero, List.getD_cons_succ]
  have hset1 := setS_any hI.trie 167837696 16 (by decide) (by decide) (by decide) sb
  go_wp2_with (go_at_call 29; refine (hset1).mono ?_; clear hset1; rintro e w3 ⟨rfl, N3, ht3, hm3⟩)
  have hI3 := hI.moved hm3 (show TrieS w3 b N3 1 M1 from ht3)
  refine ⟨hI3.s, ?_⟩
  clear hI hm3 ht3
  refine held_one 5 (by kernel_rfl) ?_
  simp only [pick, List.getD_cons_zero, List.getD_cons_succ]
  have hset1 := setS_any hI3.trie 167772160 8 (by decide) (by decide) (by decide) sa
  go_wp2_with (go_at_call 29; refine (hset1).mono ?_; clear hset1; rintro e w4 ⟨rfl, N4, ht4, hm4⟩)
  have hI4 := hI3.moved hm4 (show TrieS w4 b N4 2 M2 from ht4)
  refine ⟨hI4.s, ?_⟩
  clear hI3 hm4 ht4
  refine held_one 8 (by kernel_rfl) ?_
  simp only [pick, List.getD_cons_zero, List.getD_cons_succ]
  have hset1 := setS_bad hI4.trie 1 0 (by decide) (by decide) ⟨#[99]⟩
  go_wp2_with (go_at_call 29; refine (hset1).mono ?_; clear hset1; rintro e w5 ⟨rfl, hb5⟩)
  have hI5 := hI4.on hb5
  refine ⟨hI5.s, ?_⟩
  clear hI4 hb5
  refine held_reads [9, 10, 11] (g := 0) rfl (by kernel_rfl) hI5.s (fun _ _ d _ _ h => by cases d <;> exact h) ?_
  simp only [pick, List.getD_cons_zero, List.getD_cons_succ]
  iterate 3 ((with_reducible refine wpRead_step (fun K hK => ?_)); go_simp; (apply Exists.intro; (with_reducible refine ⟨fun w' hw' => ?_, hK _ ?_⟩); exact rfl; clear hK K))
  with_reducible refine wpRead_nil ?_
  refine wpAnyH_done (by kernel_rfl) ?_ _
  have hlong : Calls Try.prog 30 #[.pointer (some ⟨b, 0, none⟩), .int .u32 167837701] w5 fun e w' => e = .returned (.tuple #[.agg #[.int .u32 167837696, .int .i64 16], .string ⟨#[98]⟩, .bool true]) ∧ Below w5.heap.size w5 w' := by
    have h := longS_any hI5.trie 167837701 (by decide)
    rw [lng2] at h
    exact h
  go_wp2_with (go_at_call 30; refine (hlong).mono ?_; clear hlong; rintro e w6 ⟨rfl, hb6⟩; have hI6 := hI5.on hb6; have hI7 := hI6.on ((Below.refl _ w6).alloc (Nat.le_refl _) (.cells #[.int .u32 167837696, .int .i64 16] 32)); obtain ⟨c0, c1, c2, c3⟩ := hI6.s.cells; obtain ⟨d0, d1, d2, d3⟩ := hI7.s.cells; have hp6 := lt_of_blk hI6.ha; have hq6 := lt_of_blk hI6.hb; clear hI5 hb6)
  clear c0 c1 c2 c3 d0 d1 d2 d3
  have hbox := hnew w6 (.cells #[.int .u32 167837696, .int .i64 16] 32)
  have hbn7 : ¬ foot b N4 w6.heap.size := fun hf => by have h1 := hI6.trie.lt hf; omega
  clear hI6
  generalize w6.alloc (.cells #[.int .u32 167837696, .int .i64 16] 32) = w7 at hI7 hbox ⊢
  generalize w6.heap.size = r at hbox hbn7 hp6 hq6 ⊢
  have hwin := withinS_any hI7.trie 167772160 8 (by decide) (by rw [held2a]; decide)
  rw [held2a] at hwin
  go_wp2_with (go_at_call 31; refine (hwin).mono ?_; clear hwin; rintro e w8 ⟨v8, rfl, hown8, hb8⟩; have hI8 := hI7.on hb8; obtain ⟨c0, c1, c2, c3⟩ := hI8.s.cells)
  have hO8 := OwnOut.new hown8 (fun k hk => hI7.trie.lt hk)
  have hbox8 := (hb8.block r (lt_of_blk hbox)).trans hbox
  clear c0 c1 c2 c3 hI7 hown8 hbox hb8
  have hwin := withinS_any hI8.trie 167837696 16 (by decide) (by rw [held2b]; decide)
  rw [held2b] at hwin
  go_wp2_with (go_at_call 31; refine (hwin).mono ?_; clear hwin; rintro e w9 ⟨v9, rfl, hown9, hb9⟩; have hI9 := hI8.on hb9; obtain ⟨c0, c1, c2, c3⟩ := hI9.s.cells)
  have hO9 := OwnOut.new hown9 (fun k hk => hI8.trie.lt hk)
  have hO8 := hO8.moved (Moved.of_below hb9 _)
  have hbox9 := (hb9.block r (lt_of_blk hbox8)).trans hbox8
  clear c0 c1 c2 c3 hI8 hown9 hbox8 hb9
  have hget : Calls Try.prog 32 #[.pointer (some ⟨b, 0, none⟩), .agg #[.int .u32 167772160, .int .i64 8]] w9 fun e w' => e = .returned (.tuple #[.string ⟨#[97]⟩, .bool true]) ∧ Below w9.heap.size w9 w' := getS_any hI9.trie 167772160 8 (by decide)
  go_wp2_with (go_at_call 32; refine (hget).mono ?_; clear hget; rintro e w10 ⟨rfl, hb10⟩; have hI10 := hI9.on hb10; obtain ⟨c0, c1, c2, c3⟩ := hI10.s.cells)
  have hO8 := hO8.moved (Moved.of_below hb10 _)
  have hO9 := hO9.moved (Moved.of_below hb10 _)
  have hbox10 := (hb10.block r (lt_of_blk hbox9)).trans hbox9
  clear c0 c1 c2 c3 hI9 hbox9 hb10
  refine wp_region_heldP (LvS p (p + 1)) (by kernel_rfl) ?_
  have hI11 := hI10.on (Below.drew (Below.refl _ w10))
  have hO8 := hO8.moved (Moved.of_below (Below.drew (Below.refl _ w10)) _)
  have hO9 := hO9.moved (Moved.of_below (Below.drew (Below.refl _ w10)) _)
  have hbox11 : w10.drew.heap[r]? = some (.cells #[.int .u32 167837696, .int .i64 16] 32) := hbox10
  clear hI10 hbox10
  generalize w10.drew = w11 at *
  refine held_reads [0, 1, 3, 4] (g := 4) rfl (by kernel_rfl) hI11.s (fun _ _ d _ _ h => by cases d <;> exact h) ?_
  simp only [pick, List.getD_cons_zero, List.getD_cons_succ]
  iterate 4 ((with_reducible refine wpRead_step (fun K hK => ?_)); go_simp; first | ((with_reducible refine hK _ ?_); clear hK K) | (apply Exists.intro; (with_reducible refine ⟨fun w' hw' => ?_, hK _ ?_⟩); (obtain ⟨c0, c1, c2, c3⟩ := hw'.cells; go_simp; first | exact rfl | exact ⟨rfl, rfl⟩); clear hK K))
  with_reducible refine wpRead_nil ?_
  refine held_one 2 (by kernel_rfl) ?_
  simp only [pick, List.getD_cons_zero, List.getD_cons_succ]
  have hdel := delS_yes hI11.trie 167772160 8 (by decide) (by decide) (by decide) sa rfl
  go_wp2_with (go_at_call 33; refine (hdel).mono ?_; clear hdel; rintro e w12 ⟨rfl, N12, ht12, hm12⟩)
  have hI12 := hI11.moved hm12 (show TrieS w12 b N12 1 M3 from ht12)
  have hO8 := hO8.moved hm12
  have hO9 := hO9.moved hm12
  have hbox12 := (hm12.out (lt_of_blk hbox11) hbn7).2.2.trans hbox11
  refine ⟨hI12.s, ?_⟩
  clear hI11 ht12 hm12 hbox11 hbn7
  refine held_one 5 (by kernel_rfl) ?_
  simp only [pick, List.getD_cons_zero, List.getD_cons_succ]
  have hdel := delS_no hI12.trie 167772160 8 (by decide) rfl
  go_wp2_with (go_at_call 33; refine (hdel).mono ?_; clear hdel; rintro e w13 ⟨rfl, hb13⟩)
  have hI13 := hI12.on hb13
  have hO8 := hO8.moved (Moved.of_below hb13 _)
  have hO9 := hO9.moved (Moved.of_below hb13 _)
  have hbox13 := (hb13.block r (lt_of_blk hbox12)).trans hbox12
  refine ⟨hI13.s, ?_⟩
  clear hI12 hb13 hbox12
  refine held_reads [6, 7] (g := 0) rfl (by kernel_rfl) hI13.s (fun _ _ d _ _ h => by cases d <;> exact h) ?_
  simp only [pick, List.getD_cons_zero, List.getD_cons_succ]
  iterate 2 ((with_reducible refine wpRead_step (fun K hK => ?_)); go_simp; (apply Exists.intro; (with_reducible refine ⟨fun w' hw' => ?_, hK _ ?_⟩); exact rfl; clear hK K))
  with_reducible refine wpRead_nil ?_
  refine wpAnyH_done (by kernel_rfl) ?_ _
  obtain ⟨a8, k8, rfl, -, -, hsl8, -⟩ := hO8.own.sl
  obtain ⟨a9, k9, rfl, -, -, hsl9, -⟩ := hO9.own.sl
  have H13 := Lib.hid (And.intro hI13 (And.intro hsl8 hsl9))
  obtain ⟨c0, c1, c2, c3⟩ := hI13.s.cells
  have e0 : w13.cell? ⟨r, 0, none⟩ = some (.int .u32 167837696) := cell_of hbox13 rfl
  have e1 : w13.cell? ⟨r, 1, none⟩ = some (.int .i64 16) := cell_of hbox13 rfl
  have hp13 := lt_of_blk hI13.ha
  have hq13 := lt_of_blk hI13.hb
  clear hO8 hO9 hI13 hsl8 hsl9 hbox13
  simp only [List.length_cons, List.length_nil, Nat.zero_add, Nat.reduceAdd]
  go_wp2_with fail
  have hal := (Below.refl w13.heap.size w13).alloc (Nat.le_refl _) (.cells #[.int .u32 167772160, .int .i64 8, .int .u32 167837696, .int .i64 16] 32)
  have hnw := sl_two w13 167772160 8 167837696 16
  obtain ⟨hI13, hsl8, hsl9⟩ := H13.out
  have hI14 := hI13.on hal
  have hsl9 := hsl9.keep hal
  have hsame := same_any _ _ _ _ _ _ _ _ _ (hsl8.keep hal) hnw
  rw [decide_eq_true rfl] at hsame
  refine (hsame).mono ?_
  rintro e w15 ⟨rfl, hb15⟩
  have hI15 := hI14.on hb15
  have hsl9 := hsl9.keep hb15
  clear hsame hnw hsl8 H13 c0 c1 c2 c3 e0 e1 hal hI13 hI14 hb15 hp13 hq13
  have H15 := Lib.hid (And.intro hI15 hsl9)
  obtain ⟨c0, c1, c2, c3⟩ := hI15.s.cells
  have hp13 := lt_of_blk hI15.ha
  have hq13 := lt_of_blk hI15.hb
  clear hI15 hsl9
  go_wp2_with fail
  have hal := (Below.refl w15.heap.size w15).alloc (Nat.le_refl _) (.cells #[.int .u32 167837696, .int .i64 16] 32)
  have hnw := sl_one w15 167837696 16
  obtain ⟨hI15, hsl9⟩ := H15.out
  have hsame := same_any _ _ _ _ _ _ _ _ _ (hsl9.keep hal) hnw
  rw [decide_eq_true rfl] at hsame
  refine (hsame).mono ?_
  rintro e w16 ⟨rfl, hb16⟩
  have hI16 := (hI15.on hal).on hb16
  clear hsame hnw hsl9 H15 c0 c1 c2 c3 hal hI15 hb16 hp13 hq13
  have hlen := lenS_any hI16.trie
  have hpre := prefixesS_any hI16.trie (by rw [held3]; decide)
  rw [held3] at hpre
  go_wp2_with (first | (go_at_call 34; refine (hlen).mono ?_; clear hlen; rintro e w17 ⟨rfl, rfl⟩) | (go_at_call 35; refine (hpre).mono ?_; clear hpre; rintro e w18 ⟨v18, rfl, hown18, hb18⟩; obtain ⟨a18, k18, rfl, -, -, -, -⟩ := hown18.sl))
  go_ret
  exact ⟨rfl, hI16.below.trans (hb18.mono hI16.below.size)⟩
end Go.Proofs.Ytdhebjeajdohoaa
