/- Tables in memory; New and what but reads. -/
import Derived.Test.YtadoflcomienoaaGreatZan
import Derived.Test.YtadoflcomienoaaGreatZai
import Derived.Test.YtadoflcomienoaaGreatZah
namespace Go.Proofs.YtadoflcomienoaaGreat
open Go.RowKit
open Go.ChangeMaps (setBlock)

/-- the blocks of a table: itself, its trie, its counts; the trie's nodes, and its things: maps -/
structure Rb where
  b : Nat
  bt : Nat
  bo : Nat
  N : Nat → Nat → Option Nat
  M : Nat → Nat → Option (Option Nat)
def Rb.F (R : Rb) (k : Nat) : Prop := k = R.b ∨ k = R.bo ∨ foot R.bt R.N k ∨ ∃ a d, R.M a d = some (some k)
/-- its blocks, and others -/
def Rb.FX (R : Rb) (X : Nat → Prop) (k : Nat) : Prop := R.F k ∨ X k
theorem Moved.union {w w' : World} {F F' : Nat → Prop} (h : Moved w w' F F') (X : Nat → Prop) : Moved w w' (fun k => F k ∨ X k) (fun k => F' k ∨ X k) :=
  ⟨h.os, h.tape, h.output, h.size, fun k hk hn => h.same k hk (fun hf => hn (.inl hf)), fun k hk => hk.elim (fun h1 => (h.foot k h1).imp_left .inl) (fun h1 => .inl (.inr h1))⟩
theorem HoldF.less {F F' : Nat → Prop} {w : World} {P : World → Prop} (h : HoldF F w P) (hf : ∀ k, F' k → F k) : HoldF F' w P := fun w' h1 h2 => h w' h1 fun k hk hn => h2 k hk fun h3 => hn (hf k h3)
def atV (G : List RtV) (k : PK) : List RtV := G.filter fun x => decide (x.k = k)
def cntV (G : List RtV) (r : Int) : Int := ((G.filter fun x => decide (x.r = r)).length : Nat)
def pkN (a d : Nat) : PK := (a, (d : Int))
def dropV (G : List RtV) (q : RKey) : List RtV := G.filter fun x => decide (x.key ≠ q)
/-- a table in memory -/
structure RibAt (w : World) (R : Rb) (X : Nat → Prop) (n : Nat) (asn room ref : Int) (G : List RtV) : Prop where
  blk : w.heap[R.b]? = some (.cells #[.pointer (some ⟨R.bt, 0, none⟩), .int .i64 asn, .int .i64 room, .int .i64 (G.length : Int), .int .i64 ref, .map (some R.bo)] 120)
  tr : Tm.TrieM w R.bt R.N n R.M
  rf : ∃ E, Tm.RefOk E R.M ∧ E.length = n
  mp : ∀ a d x, R.M a d = some x → ∃ m, x = some m ∧ PathsAt w m (atV G (pkN a d)) ∧ atV G (pkN a d) ≠ []
  all : ∀ x ∈ G, (R.M x.k.1 x.k.2.toNat).isSome
  inj : ∀ a d a' d' m, R.M a d = some (some m) → R.M a' d' = some (some m) → a = a' ∧ d = d'
  of : OfAt w R.bo (cntV G)
  ofne : ∀ a d, R.M a d ≠ some (some R.bo)
  okx : ∀ x ∈ G, KOk x.r x.k x.i
  nd : (G.map RtV.key).Nodup
  far : ∀ x ∈ G, HoldF (R.FX X) w fun W => AtOk W x.a
  sm : ∀ x ∈ G, SmA x.a
theorem KOk.pk {r : Int} {k : PK} {i : Int} (h : KOk r k i) : k = pkN k.1 k.2.toNat := by
  have h1 := okP_iff.1 h.p
  obtain ⟨a, l⟩ := k
  unfold pkN
  dsimp only at *
  rw [Int.toNat_of_nonneg h1.1]
theorem foot_blk {w : World} {b n : Nat} {N : Nat → Nat → Option Nat} {M : Nat → Nat → Option (Option Nat)} (h : Tm.TrieM w b N n M) {k : Nat} (hk : foot b N k) : ∃ cs t, w.heap[k]? = some (.cells cs t (0, 0)) ∧ t ≠ 120 := by
  rcases hk with rfl | ⟨a, d, hk⟩
  · obtain ⟨r, h1, h2⟩ := h.root
    exact ⟨_, _, h2, by decide⟩
  · exact ⟨_, _, h.node a d k hk, by decide⟩
theorem nodup_len {α : Type} [DecidableEq α] : ∀ {L M : List α}, L.Nodup → (∀ x ∈ L, x ∈ M) → L.length ≤ M.length
  | [], _, _, _ => Nat.zero_le _
  | x :: r, M, h, hs => by
    rw [List.nodup_cons] at h
    have hx := hs x List.mem_cons_self
    have h1 := nodup_len (L := r) (M := M.erase x) h.2 fun y hy => (List.mem_erase_of_ne (fun e => h.1 (by rw [← e]; exact hy))).2 (hs y (List.mem_cons_of_mem _ hy))
    rw [List.length_erase_of_mem hx] at h1
    have h2 := List.length_pos_of_mem hx
    rw [List.length_cons]
    omega
section
variable {w w' : World} {R : Rb} {X : Nat → Prop} {n : Nat} {asn room ref : Int} {G : List RtV}
theorem RibAt.b_foot (H : RibAt w R X n asn room ref G) : ¬ foot R.bt R.N R.b := fun h => by
  obtain ⟨cs, t, h1, h2⟩ := foot_blk H.tr h
  rw [H.blk] at h1
  injection h1 with h1
  injection h1 with _ h3
  exact h2 h3.symm
theorem RibAt.map_foot (H : RibAt w R X n asn room ref G) {a d m : Nat} (h : R.M a d = some (some m)) : ¬ foot R.bt R.N m := fun hf => by
  obtain ⟨cs, t, h1, h2⟩ := foot_blk H.tr hf
  obtain ⟨m', e, h3, -⟩ := H.mp a d _ h
  injection e with e
  subst e
  obtain ⟨A, c, h4⟩ := h3.blk
  rw [h4] at h1
  cases h1
theorem RibAt.map_b (H : RibAt w R X n asn room ref G) {a d m : Nat} (h : R.M a d = some (some m)) : m ≠ R.b := fun e => by
  obtain ⟨m', e2, h3, -⟩ := H.mp a d _ h
  injection e2 with e2
  subst e2
  obtain ⟨A, c, h4⟩ := h3.blk
  rw [e, H.blk] at h4
  cases h4
theorem RibAt.map_lt (H : RibAt w R X n asn room ref G) {a d m : Nat} (h : R.M a d = some (some m)) : m < w.heap.size := by
  obtain ⟨m', e2, h3, -⟩ := H.mp a d _ h
  injection e2 with e2
  subst e2
  exact h3.lt
theorem RibAt.bo_foot (H : RibAt w R X n asn room ref G) : ¬ foot R.bt R.N R.bo := fun hf => by
  obtain ⟨cs, t, h1, h2⟩ := foot_blk H.tr hf
  obtain ⟨A, c, h4⟩ := H.of.blk
  rw [h4] at h1
  cases h1
theorem RibAt.bo_b (H : RibAt w R X n asn room ref G) : R.bo ≠ R.b := fun e => by
  obtain ⟨A, c, h4⟩ := H.of.blk
  rw [e, H.blk] at h4
  cases h4
theorem RibAt.lt (H : RibAt w R X n asn room ref G) {k : Nat} (hk : R.F k) : k < w.heap.size := by
  rcases hk with rfl | rfl | h | ⟨a, d, h⟩
  · exact lt_of_blk H.blk
  · exact H.of.lt
  · exact H.tr.lt h
  · exact H.map_lt h
theorem RibAt.below (H : RibAt w R X n asn room ref G) (hb : Below w.heap.size w w') : RibAt w' R X n asn room ref G :=
  ⟨(hb.block _ (lt_of_blk H.blk)).trans H.blk, H.tr.below hb, H.rf, (fun a d x h => by
    obtain ⟨m, e, h1, h2⟩ := H.mp a d x h
    exact ⟨m, e, h1.keep hb, h2⟩), H.all, H.inj, H.of.on (hb.block _ H.of.lt), H.ofne, H.okx, H.nd, (fun x hx => (H.far x hx).below hb), H.sm⟩
theorem mem_atV {k : PK} {x : RtV} : x ∈ atV G k ↔ x ∈ G ∧ x.k = k := by unfold atV; rw [List.mem_filter, decide_eq_true_eq]
theorem RibAt.nG (H : RibAt w R X n asn room ref G) : n ≤ G.length := by
  obtain ⟨E, h1, h2⟩ := H.rf
  have hnd : ((E.map (·.1)).map fun q => pkN q.1 q.2).Nodup := by
    rw [List.nodup_iff_pairwise_ne, List.pairwise_map]
    refine List.Pairwise.imp (fun {x y} h e => ?_) h1.sorted
    unfold pkN at e
    rw [Prod.mk.injEq] at e
    unfold Tm.ltK at h
    omega
  have := nodup_len (M := G.map RtV.k) hnd fun k hk => by
    obtain ⟨q, hq, rfl⟩ := List.mem_map.1 hk
    obtain ⟨x, hx⟩ := Option.isSome_iff_exists.1 ((h1.some q.1 q.2).2 hq)
    obtain ⟨m, -, -, hne⟩ := H.mp _ _ _ hx
    obtain ⟨y, hy⟩ := List.exists_mem_of_ne_nil _ hne
    obtain ⟨h3, h4⟩ := mem_atV.1 hy
    exact List.mem_map.2 ⟨y, h3, h4⟩
  rw [List.length_map, List.length_map, List.length_map, h2] at this
  exact this
/-- a step of a table at one prefix -/
theorem RibAt.step (H : RibAt w R X n asn room ref G) {W : World} {N' : Nat → Nat → Option Nat} {M' : Nat → Nat → Option (Option Nat)} {n' : Nat} {ref' : Int} {G' : List RtV} {a d : Nat}
    (hmv : Moved w W R.F (Rb.F ⟨R.b, R.bt, R.bo, N', M'⟩)) (hblk : W.heap[R.b]? = some (.cells #[.pointer (some ⟨R.bt, 0, none⟩), .int .i64 asn, .int .i64 room, .int .i64 (G'.length : Int), .int .i64 ref', .map (some R.bo)] 120))
    (htr : Tm.TrieM W R.bt N' n' M') (hrf : ∃ E, Tm.RefOk E M' ∧ E.length = n') (hother : ∀ a' d', ¬ (a' = a ∧ d' = d) → M' a' d' = R.M a' d')
    (hsame : ∀ a' d' m, ¬ (a' = a ∧ d' = d) → R.M a' d' = some (some m) → W.heap[m]? = w.heap[m]?)
    (hat : ∀ a' d', ¬ (a' = a ∧ d' = d) → atV G' (pkN a' d') = atV G (pkN a' d'))
    (hm : ∀ x, M' a d = some x → ∃ m, x = some m ∧ PathsAt W m (atV G' (pkN a d)) ∧ atV G' (pkN a d) ≠ [] ∧ m ≠ R.bo ∧ ∀ a' d', R.M a' d' = some (some m) → a' = a ∧ d' = d)
    (hall : ∀ x ∈ G', x.k = pkN a d → (M' a d).isSome) (hof : OfAt W R.bo (cntV G')) (hokx : ∀ x ∈ G', KOk x.r x.k x.i) (hnd : (G'.map RtV.key).Nodup)
    (hfar : ∀ x ∈ G', x ∈ G ∨ (HoldF (Rb.FX ⟨R.b, R.bt, R.bo, N', M'⟩ X) W (fun W => AtOk W x.a) ∧ SmA x.a)) : RibAt W ⟨R.b, R.bt, R.bo, N', M'⟩ X n' asn room ref' G' := by
  refine ⟨hblk, htr, hrf, fun a' d' x h => ?_, fun x hx => ?_, fun a1 d1 a2 d2 m h1 h2 => ?_, hof, fun a' d' h => ?_, hokx, hnd, fun x hx => ?_, fun x hx => ?_⟩
  · by_cases e : a' = a ∧ d' = d
    · obtain ⟨rfl, rfl⟩ := e
      obtain ⟨m, e, h1, h2, -⟩ := hm x h
      exact ⟨m, e, h1, h2⟩
    · have h' : R.M a' d' = some x := (hother a' d' e).symm.trans h
      obtain ⟨m, rfl, h1, h2⟩ := H.mp a' d' x h'
      rw [← hat a' d' e] at h1 h2
      exact ⟨m, rfl, h1.on (hsame a' d' m e h'), h2⟩
  · by_cases e : x.k.1 = a ∧ x.k.2.toNat = d
    · obtain ⟨rfl, rfl⟩ := e
      exact hall x hx (hokx x hx).pk
    · show (M' x.k.1 x.k.2.toNat).isSome = true
      rw [hother _ _ e]
      refine H.all x ?_
      have h1 : x ∈ atV G' (pkN x.k.1 x.k.2.toNat) := mem_atV.2 ⟨hx, (hokx x hx).pk⟩
      rw [hat _ _ e] at h1
      exact (mem_atV.1 h1).1
  · have key : ∀ a' d', M' a' d' = some (some m) → ¬ (a' = a ∧ d' = d) → R.M a' d' = some (some m) := fun a' d' h e => (hother a' d' e).symm.trans h
    have at0 : M' a d = some (some m) → ∀ a' d', R.M a' d' = some (some m) → a' = a ∧ d' = d := fun h => by
      obtain ⟨m', e, -, -, -, h5⟩ := hm _ h
      injection e with e
      subst e
      exact h5
    by_cases e1 : a1 = a ∧ d1 = d
    · by_cases e2 : a2 = a ∧ d2 = d
      · exact ⟨e1.1.trans e2.1.symm, e1.2.trans e2.2.symm⟩
      · obtain ⟨rfl, rfl⟩ := e1
        exact absurd (at0 h1 _ _ (key _ _ h2 e2)) e2
    · by_cases e2 : a2 = a ∧ d2 = d
      · obtain ⟨rfl, rfl⟩ := e2
        exact absurd (at0 h2 _ _ (key _ _ h1 e1)) e1
      · exact H.inj _ _ _ _ _ (key _ _ h1 e1) (key _ _ h2 e2)
  · by_cases e : a' = a ∧ d' = d
    · obtain ⟨rfl, rfl⟩ := e
      obtain ⟨m', e, -, -, h4, -⟩ := hm _ h
      injection e with e
      exact h4 e.symm
    · exact H.ofne a' d' ((hother a' d' e).symm.trans h)
  · rcases hfar x hx with h | h
    · exact (H.far x h).moved (hmv.union X)
    · exact h.1
  · rcases hfar x hx with h | h
    · exact H.sm x h
    · exact h.2
end
section
variable {w : World} {R : Rb} {X : Nat → Prop} {n : Nat} {asn room ref : Int} {G : List RtV}
theorem made_any14 (H : RibAt w R X n asn room ref G) : Calls Tryz.prog 74 #[.pointer (some ⟨R.b, 0, none⟩)] w fun e w' => e = .returned (.bool true) ∧ w' = w := by
  have c0 := cell_of (o := 0) H.blk rfl
  clear H
  go_enter Tryz.func74, Tryz.ntmps74
  go_wp2_with fail
  go_ret
  exact ⟨rfl, rfl⟩
theorem rlen_any (H : RibAt w R X n asn room ref G) : Calls Tryz.prog 38 #[.pointer (some ⟨R.b, 0, none⟩)] w fun e w' => e = .returned (.int .i64 (G.length : Int)) ∧ w' = w := by
  have c0 := cell_of (o := 3) H.blk rfl
  clear H
  go_enter Tryz.func38, Tryz.ntmps38
  go_wp2_with fail
  go_ret
  exact ⟨rfl, rfl⟩
theorem rrefused_any (H : RibAt w R X n asn room ref G) : Calls Tryz.prog 40 #[.pointer (some ⟨R.b, 0, none⟩)] w fun e w' => e = .returned (.int .i64 ref) ∧ w' = w := by
  have c0 := cell_of (o := 4) H.blk rfl
  clear H
  go_enter Tryz.func40, Tryz.ntmps40
  go_wp2_with fail
  go_ret
  exact ⟨rfl, rfl⟩

theorem rof_any (H : RibAt w R X n asn room ref G) {r : Int} (hr : I64 r) : Calls Tryz.prog 39 #[.pointer (some ⟨R.b, 0, none⟩), .int .i64 r] w fun e w' => e = .returned (.int .i64 (cntV G r)) ∧ w' = w := by
  have c0 := cell_of (o := 5) H.blk rfl
  have hl := H.of.lookup (k := r) (wfI hr) w rfl
  generalize cntV G r = v at *
  clear H
  go_enter Tryz.func39, Tryz.ntmps39
  go_wp2_with fail
  go_ret
  exact ⟨rfl, rfl⟩
end
set_option maxRecDepth 100000 in
theorem rnew_ok (w : World) (asn room : Int) (h : (0 ≤ asn ∧ asn ≤ 4294967295) ∧ (0 ≤ room ∧ room ≤ 65536)) : Calls Tryz.prog 21 #[.int .i64 asn, .int .i64 room] w fun e w' => ∃ R : Rb, e = .returned (.tuple #[.pointer (some ⟨R.b, 0, none⟩), .int .i64 0]) ∧ RibAt w' R (fun _ => False) 0 asn room 0 [] ∧ (∀ k, R.F k → w.heap.size ≤ k) ∧ Below w.heap.size w w' := by
  have HN := Lib.hid (Tm.newM_any w)
  have e1 : (asn < 0) = False := eq_false (by omega)
  have e2 : (4294967295 < asn) = False := eq_false (by omega)
  have e3 : (room < 0) = False := eq_false (by omega)
  have e4 : (65536 < room) = False := eq_false (by omega)
  clear h
  have hmm := @run_makeMap Tryz.prog
  go_enter Tryz.func21, Tryz.ntmps21
  go_wp2_with fail
  refine (HN.out).mono ?_
  rintro e w1 ⟨rfl, ht, hb⟩
  have hal := hb.alloc hb.size (.map #[] 0)
  have ha2 := hal.alloc hal.size (.cells #[.pointer (some ⟨w.heap.size + 1, 0, none⟩), .int .i64 asn, .int .i64 room, .int .i64 0, .int .i64 0, .map (some w1.heap.size)] 120)
  have hx1 := (Below.refl w1.heap.size w1).alloc (Nat.le_refl _) (.map #[] 0)
  have hx2 := hx1.alloc hx1.size (.cells #[.pointer (some ⟨w.heap.size + 1, 0, none⟩), .int .i64 asn, .int .i64 room, .int .i64 0, .int .i64 0, .map (some w1.heap.size)] 120)
  have ht2 := ht.below hx2
  have hmp : MR.MapAt IN ((w1.alloc (.map #[] 0)).alloc (.cells #[.pointer (some ⟨w.heap.size + 1, 0, none⟩), .int .i64 asn, .int .i64 room, .int .i64 0, .int .i64 0, .map (some w1.heap.size)] 120)) w1.heap.size [] 0 := MR.mapAt_made IN (hold (hnew _ _))
  have hbk : ((w1.alloc (.map #[] 0)).alloc (.cells #[.pointer (some ⟨w.heap.size + 1, 0, none⟩), .int .i64 asn, .int .i64 room, .int .i64 0, .int .i64 0, .map (some w1.heap.size)] 120)).heap[w1.heap.size + 1]? = some (.cells #[.pointer (some ⟨w.heap.size + 1, 0, none⟩), .int .i64 asn, .int .i64 room, .int .i64 0, .int .i64 0, .map (some w1.heap.size)] 120) := hnewAt (by simp)
  have F := Lib.hid (And.intro ha2 (And.intro ht2 (And.intro hmp (And.intro hbk hb.size))))
  clear ht hb hal ha2 hx1 hx2 ht2 hmp hbk
  go_wp2_with fail
  go_ret2
  refine ⟨⟨w1.heap.size + 1, w.heap.size + 1, w1.heap.size, fun a d => if a = 0 ∧ d = 0 then some w.heap.size else none, fun _ _ => none⟩, rfl, ⟨F.out.2.2.2.1, F.out.2.1, ⟨[], Tm.RefOk.nil, rfl⟩, (fun a d x h => by cases h), (fun x h => by cases h), (fun a d a' d' m h => by cases h), ⟨_, _, F.out.2.2.1, fun k => rfl⟩, (fun a d h => by cases h), (fun x h => by cases h), List.nodup_nil, (fun x h => by cases h), fun x h => by cases h⟩, fun k hk => ?_, F.out.1⟩
  have hs := F.out.2.2.2.2
  rcases hk with rfl | rfl | h | ⟨a, d, h⟩
  · exact Nat.le_succ_of_le hs
  · exact hs
  · rcases h with rfl | ⟨a, d, h⟩
    · exact Nat.le_succ _
    · have h' : (if a = 0 ∧ d = 0 then some w.heap.size else none) = some k := h
      split at h'
      · injection h' with h'; omega
      · cases h'
  · cases h
theorem rnew_no (w : World) (asn room : Int) (h : ¬ ((0 ≤ asn ∧ asn ≤ 4294967295) ∧ (0 ≤ room ∧ room ≤ 65536))) : Calls Tryz.prog 21 #[.int .i64 asn, .int .i64 room] w fun e w' => e = .returned (.tuple #[.pointer none, .int .i64 1]) ∧ w' = w := by
  by_cases h1 : asn < 0
  · have e1 : (asn < 0) = True := eq_true h1
    clear h h1
    go_enter Tryz.func21, Tryz.ntmps21
    go_wp2_with fail
    go_ret2
    exact ⟨rfl, rfl⟩
  · have e1 : (asn < 0) = False := eq_false h1
    by_cases h2 : 4294967295 < asn
    · have e2 : (4294967295 < asn) = True := eq_true h2
      clear h h1 h2
      go_enter Tryz.func21, Tryz.ntmps21
      go_wp2_with fail
      go_ret2
      exact ⟨rfl, rfl⟩
    · have e2 : (4294967295 < asn) = False := eq_false h2
      by_cases h3 : room < 0
      · have e3 : (room < 0) = True := eq_true h3
        clear h h1 h2 h3
        go_enter Tryz.func21, Tryz.ntmps21
        go_wp2_with fail
        go_ret2
        exact ⟨rfl, rfl⟩
      · have e3 : (room < 0) = False := eq_false h3
        have e4 : (65536 < room) = True := eq_true (by omega)
        clear h h1 h2 h3
        go_enter Tryz.func21, Tryz.ntmps21
        go_wp2_with fail
        go_ret2
        exact ⟨rfl, rfl⟩
set_option maxRecDepth 100000 in
set_option maxHeartbeats 8000000 in
theorem rcopyOf_any {w : World} {x : AtV} (hx : AtOk w x) (hs : SmA x) : Calls Tryz.prog 76 #[x.v] w fun e w' => ∃ y : AtV, e = .returned y.v ∧ AtOk w' y ∧ NewA w.heap.size y ∧ y.at = x.at ∧ Below w.heap.size w w' := by
  have hal := ((Below.refl w.heap.size w).alloc (Nat.le_refl _) (.cells #[.int .i64 x.o, .slice x.p.a x.p.n x.p.c, .int .u32 x.nx, .int .i64 x.md, .int .i64 x.pf, .slice x.c.a x.c.n x.c.c] 40)).alloc (by simp) (.cells #[.int .i64 0, .slice none 0 0, .int .u32 0, .int .i64 0, .int .i64 0, .slice none 0 0] 40)
  have hX : BxA w.heap.size x ((w.alloc (.cells #[.int .i64 x.o, .slice x.p.a x.p.n x.p.c, .int .u32 x.nx, .int .i64 x.md, .int .i64 x.pf, .slice x.c.a x.c.n x.c.c] 40)).alloc (.cells #[.int .i64 0, .slice none 0 0, .int .u32 0, .int .i64 0, .int .i64 0, .slice none 0 0] 40)) := hold (hnew _ _)
  have hZ : ((w.alloc (.cells #[.int .i64 x.o, .slice x.p.a x.p.n x.p.c, .int .u32 x.nx, .int .i64 x.md, .int .i64 x.pf, .slice x.c.a x.c.n x.c.c] 40)).alloc (.cells #[.int .i64 0, .slice none 0 0, .int .u32 0, .int .i64 0, .int .i64 0, .slice none 0 0] 40)).heap[w.heap.size + 1]? = some (.cells #[.int .i64 0, .slice none 0 0, .int .u32 0, .int .i64 0, .int .i64 0, .slice none 0 0] 40) := hnewAt (by simp)
  have hsz : ((w.alloc (.cells #[.int .i64 x.o, .slice x.p.a x.p.n x.p.c, .int .u32 x.nx, .int .i64 x.md, .int .i64 x.pf, .slice x.c.a x.c.n x.c.c] 40)).alloc (.cells #[.int .i64 0, .slice none 0 0, .int .u32 0, .int .i64 0, .int .i64 0, .slice none 0 0] 40)).heap.size = w.heap.size + 2 := by simp
  have HX := Lib.hid (And.intro hx hs)
  have F := Lib.hid (And.intro hal (And.intro hX (And.intro hZ hsz)))
  have HC := Lib.hid (clone_ints (oa := x.c.a) (n := x.c.n) (c := x.c.c) (L := x.c.l) (hx.c.keepI hal) hs.c)
  obtain ⟨c0, c1, c2, c3, c4, c5⟩ := hX.cells
  unfold AtV.v
  clear hal hX hZ hsz hx hs
  go_enter Tryz.func76, Tryz.ntmps76
  go_wp2_with fail
  generalize (w.alloc (.cells #[.int .i64 x.o, .slice x.p.a x.p.n x.p.c, .int .u32 x.nx, .int .i64 x.md, .int .i64 x.pf, .slice x.c.a x.c.n x.c.c] 40)).alloc (.cells #[.int .i64 0, .slice none 0 0, .int .u32 0, .int .i64 0, .int .i64 0, .slice none 0 0] 40) = W0 at *
  refine (HC.out).mono ?_
  rintro e W1 ⟨v5, rfl, ho5, hb5⟩
  have hbx := F.out.2.1.keep hb5
  obtain ⟨s5, rfl, hl5, hs5, hn5, hv5⟩ := Own_slok (ok := OkI) ho5 (fun n hn => HX.out.1.c.all n hn)
  have e0 : W1.frozen? ⟨w.heap.size, 5, none⟩ = false := free_of hbx
  obtain ⟨d0, d1, d2, d3, d4, d5⟩ := hbx.cells
  have hst := setCell_blk hbx 5 (.slice s5.a s5.n s5.c)
  have hB1 : But W1 (W1.setCell ⟨w.heap.size, 5, none⟩ (.slice s5.a s5.n s5.c)) [w.heap.size] := (But.refl W1 [w.heap.size]).setCell (a := ⟨w.heap.size, 5, none⟩) (.inr (by simp)) _
  have hnew5 : NewS (w.heap.size + 2) s5 := fun h a e => by rw [← F.out.2.2.2]; exact hn5 h a e
  have hs5' : SlOk RI OkI (W1.setCell ⟨w.heap.size, 5, none⟩ (.slice s5.a s5.n s5.c)) s5 := (hs5.firmI (g := some w.heap.size) (hnew5.far fun k hk => by injection hk with hk; omega)) _ ⟨hB1.os, hB1.tape, hB1.output, hB1.size, fun k hk hne => hB1.block k hk (fun hm => hne (by rw [List.mem_singleton] at hm; rw [hm]))⟩
  have hbw : Below w.heap.size w (W1.setCell ⟨w.heap.size, 5, none⟩ (.slice s5.a s5.n s5.c)) := (bcall F.out.1 (Nat.le_refl _) hb5).trans (hB1.below (Nat.le_trans (by rw [F.out.2.2.2]; exact Nat.le_add_right _ _) hb5.size) (by simp))
  have hz1 : (W1.setCell ⟨w.heap.size, 5, none⟩ (.slice s5.a s5.n s5.c)).heap[w.heap.size + 1]? = some (.cells #[.int .i64 0, .slice none 0 0, .int .u32 0, .int .i64 0, .int .i64 0, .slice none 0 0] 40) := (hB1.block _ (Nat.lt_of_lt_of_le (by rw [F.out.2.2.2]; omega) hb5.size) (by simp)).trans ((hb5.block _ (by rw [F.out.2.2.2]; omega)).trans F.out.2.2.1)
  have F1 := Lib.hid (And.intro hbw (And.intro (show BxA w.heap.size ⟨x.o, x.p, x.nx, x.md, x.pf, s5⟩ (W1.setCell ⟨w.heap.size, 5, none⟩ (.slice s5.a s5.n s5.c)) from hst) (And.intro hz1 (And.intro hs5' (And.intro hnew5 (And.intro hl5 (show w.heap.size + 2 ≤ (W1.setCell ⟨w.heap.size, 5, none⟩ (.slice s5.a s5.n s5.c)).heap.size from Nat.le_trans (by rw [← F.out.2.2.2]; exact hb5.size) hB1.size)))))))
  have HC2 := Lib.hid (clone_sgs (oa := x.p.a) (n := x.p.n) (c := x.p.c) (L := x.p.l) (HX.out.1.p.keepS hbw) HX.out.2.p)
  have hx1 := F1.out.2.1.cells
  dsimp only at hx1
  obtain ⟨f0, f1, f2, f3, f4, f5⟩ := hx1
  clear ho5 hb5 hbx hl5 hs5 hn5 hv5 hst hB1 hs5' hbw hz1 hnew5 HC F c0 c1 c2 c3 c4 c5
  go_wp2_with fail
  generalize W1.setCell ⟨w.heap.size, 5, none⟩ (.slice s5.a s5.n s5.c) = W2 at *
  refine (HC2.out).mono ?_
  rintro e W3 ⟨v6, rfl, ho6, hb6⟩
  clear d0 d1 d2 d3 d4 d5 e0 f0 f1 f2 f3 f4 f5
  have hbx := F1.out.2.1.keep hb6
  obtain ⟨⟨pa, pn, pc, pl⟩, rfl, hl6, hs6, hn6, hv6⟩ := Own_slok (ok := SgOk) ho6 (fun n hn => (HX.out.1.p.keepS (bcall F1.out.1 (Nat.le_refl _) hb6)).all n hn)
  dsimp only at ho6 hl6 hs6 hn6 hv6 ⊢
  subst hl6
  have e0 : W3.frozen? ⟨w.heap.size, 1, none⟩ = false := free_of hbx
  have hx1 := hbx.cells
  dsimp only at hx1
  obtain ⟨d0, d1, d2, d3, d4, d5⟩ := hx1
  have hst := setCell_blk hbx 1 (.slice pa pn pc)
  have hB1 : But W3 (W3.setCell ⟨w.heap.size, 1, none⟩ (.slice pa pn pc)) [w.heap.size] := (But.refl W3 [w.heap.size]).setCell (a := ⟨w.heap.size, 1, none⟩) (.inr (by simp)) _
  have hG1 : W3.grownBy (W3.setCell ⟨w.heap.size, 1, none⟩ (.slice pa pn pc)) (some w.heap.size) := ⟨hB1.os, hB1.tape, hB1.output, hB1.size, fun k hk hne => hB1.block k hk (fun hm => hne (by rw [List.mem_singleton] at hm; rw [hm]))⟩
  have hbw : Below w.heap.size w (W3.setCell ⟨w.heap.size, 1, none⟩ (.slice pa pn pc)) := (bcall F1.out.1 (Nat.le_refl _) hb6).trans (hB1.below (Nat.le_trans (Nat.le_trans (Nat.le_add_right _ _) F1.out.2.2.2.2.2.2) hb6.size) (by simp))
  have hfar : ∀ k, Value.ownBlock (.slice pa pn pc) = some k → W2.heap.size ≤ k := fun k hk => (World.ownsRow.lt ho6 k hk).1
  have hq2 : w.heap.size + 2 ≤ W2.heap.size := F1.out.2.2.2.2.2.2
  have hI : CpI w x (.slice pa pn pc) s5 pn pc 0 pa x.p.l (W3.setCell ⟨w.heap.size, 1, none⟩ (.slice pa pn pc)) := by
    refine ⟨?_, rfl, fun j hj => absurd hj (Nat.not_lt_zero _), fun _ _ => rfl, hst, ?_, ?_, fun k hk => Nat.le_trans hq2 (hfar k hk), hbw⟩
    · have h1 := (ho6.mono (Nat.le_trans (Nat.le_add_right _ _) hq2))
      exact h1.keep fun b hb => hG1.block b (World.ownsRow.lt ho6 b hb).2 (fun e => by
        injection e with e
        have := hfar b hb
        omega)
    · exact (hB1.block _ (Nat.lt_of_lt_of_le (by omega) hb6.size) (by simp)).trans ((hb6.block _ (by omega)).trans F1.out.2.2.1)
    · intro W hW
      have h1 : SlOk RI OkI W3 s5 := F1.out.2.2.2.1.keepI hb6
      have h2 : Firm (some w.heap.size) W3 (fun W => SlOk RI OkI W s5) := h1.firmI (F1.out.2.2.2.2.1.far fun k hk => by injection hk with hk; omega)
      refine (SlOk.firmI (h2 _ hG1) ?_) W hW
      intro hn a e e2
      have h3 := hfar _ e2.symm
      have h4 := F1.out.2.2.2.1.low hn a e
      omega
  have H0 := Lib.hid hI
  have hpn : pn = x.p.l.length := hs6.sl.len
  have HPN := Lib.hid (And.intro hpn (And.intro HX.out.2.p F1.out.2.2.2.2))
  have hc1 := hI.bx.cells
  dsimp only at hc1
  obtain ⟨f0, f1, f2, f3, f4, f5⟩ := hc1
  have hpm : pn ≤ maxLen := hs6.sl.max
  clear ho6 hb6 hbx hs6 hn6 hv6 hst hB1 hG1 hbw hfar hq2 hI hpn HC2 F1
  go_wp2_with fail
  generalize W3.setCell ⟨w.heap.size, 1, none⟩ (.slice pa pn pc) = W4 at *
  clear d0 d1 d2 d3 d4 d5 e0 f0 f1 f2 f3 f4 f5
  go_loopw [15] (fun iv wr => ∃ (i : Nat) (Pl : List SgV), i ≤ pn ∧ iv = .int .i64 i ∧ CpI w x (.slice pa pn pc) s5 pn pc i pa Pl wr) (fun iv _ => pn - (intOf iv).toNat)
  case atStart => exact ⟨0, _, Nat.zero_le _, rfl, H0.out⟩
  case round =>
    obtain ⟨i, Pl, hi, rfl, hI⟩ := hrel
    obtain ⟨w4, rfl⟩ : ∃ w4 : World, w4 = wr := ⟨_, rfl⟩
    by_cases hlt : i < pn
    · have hil : ((i : Int) < (pn : Int)) = True := by simp; omega
      have hi0 : ((0 : Int) ≤ (i : Int)) = True := by simp
      have hw3 := wrapS hlt hpm
      have hln : Pl.length = pn := by
        have h1 := congrArg List.length hI.sg
        rw [List.length_map, List.length_map, ← HPN.out.1] at h1
        exact h1
      have hown := hI.own
      rcases hown.cases with ⟨e1, e2⟩ | ⟨g, cap, e1, hg1, hg2, hg3, hg4, hrow, -, cur, hcur, hcs⟩
      · rw [e2, List.length_nil] at hln; omega
      injection e1 with ea1 ea2 ea3
      subst ea1
      subst ea3
      have hat := hrow.get i (by omega)
      rw [Nat.zero_add] at hat
      rw [hI.rest i (Nat.le_refl _)] at hat
      have hsx := HX.out.1.p.all (x.p.l.getD i default) (getD_mem (by rw [← HPN.out.1]; exact hlt))
      have hsm := HX.out.2.s (x.p.l.getD i default) (getD_mem (by rw [← HPN.out.1]; exact hlt))
      obtain ⟨s, hse⟩ : ∃ s, x.p.l.getD i default = s := ⟨_, rfl⟩
      rw [hse] at hat hsx hsm
      have s0 := hat 0 (by decide)
      have s1 := hat 1 (by decide)
      simp only [RSg, Nat.add_zero, List.getElem?_cons_zero, List.getElem?_cons_succ] at s0 s1
      have hd := (Below.refl w4.heap.size w4).drew
      have K := Lib.hid (show CpS w.heap.size ⟨x.o, ⟨some ⟨g, 0, none⟩, pn, pc, Pl⟩, x.nx, x.md, x.pf, s5⟩ g (i * 2 + 1) s.s w4.drew from ⟨hI.bx, s1⟩)
      have HC := Lib.hid (clone_ints (oa := s.s.a) (n := s.s.n) (c := s.s.c) (L := s.s.l) (SlOk.keepI (SlOk.keepI hsx hI.old) hd) hsm)
      have G := Lib.hid (And.intro (show CpI w x (.slice (some ⟨g, 0, none⟩) pn pc) s5 pn pc i (some ⟨g, 0, none⟩) Pl w4.drew from hI.keep hd) (And.intro hln (And.intro (show w4.drew.heap[g]? = some (.cells cur RSg.T (0, 0)) from hcur) (And.intro (show w4.drew.cell? ⟨g, i * 2, none⟩ = some (.bool s.set) from s0) (And.intro hcs (And.intro hse (And.intro (show g < w4.drew.heap.size from hg2) (And.intro hlt hg3))))))))
      clear hI hln hown hrow hcur hat hsx hsm s0 s1 hd hcs hse ea2 hg1 hg2 hg3 hg4 hi
      go_wp2_with fail
      refine wp_region_T 12 (CpS w.heap.size ⟨x.o, ⟨some ⟨g, 0, none⟩, pn, pc, Pl⟩, x.nx, x.md, x.pf, s5⟩ g (i * 2 + 1) s.s) (by kernel_rfl) ?_
      generalize w4.drew = V at *
      refine T_reads [0, 1, 2, 3, 4, 5, 6, 7, 8] (g := 4) rfl (by kernel_rfl) K.out (fun _ _ d _ _ h => by cases d <;> exact h) ?_
      simp only [pick, List.getD_cons_zero, List.getD_cons_succ]
      iterate 2
        ((with_reducible refine wpRead_step (fun K hK => ?_)); go_simp; first | ((with_reducible refine hK _ ?_); clear hK K) | (apply Exists.intro; (with_reducible refine ⟨fun w' hw' => ?_, hK _ ?_⟩); (first | exact rfl | exact ⟨rfl, rfl⟩); clear hK K))
        ((with_reducible refine wpRead_step (fun K hK => ?_)); go_simp; first | ((with_reducible refine hK _ ?_); clear hK K) | (apply Exists.intro; (with_reducible refine ⟨fun w' hw' => ?_, hK _ ?_⟩); (obtain ⟨f0, f1, f2, f3, f4, f5⟩ := hw'.bx.cells; dsimp only at f1; go_simp; first | exact rfl | exact ⟨rfl, rfl⟩); clear hK K))
        ((with_reducible refine wpRead_step (fun K hK => ?_)); go_simp; first | ((with_reducible refine hK _ ?_); clear hK K) | (apply Exists.intro; (with_reducible refine ⟨fun w' hw' => ?_, hK _ ?_⟩); (first | exact rfl | exact ⟨rfl, rfl⟩); clear hK K))
      iterate 2 ((with_reducible refine wpRead_step (fun K hK => ?_)); go_simp; first | ((with_reducible refine hK _ ?_); clear hK K) | (apply Exists.intro; (with_reducible refine ⟨fun w' hw' => ?_, hK _ ?_⟩); (first | exact rfl | exact ⟨rfl, rfl⟩); clear hK K))
      ((with_reducible refine wpRead_step (fun K hK => ?_)); go_simp; first | ((with_reducible refine hK _ ?_); clear hK K) | (apply Exists.intro; (with_reducible refine ⟨fun w' hw' => ?_, hK _ ?_⟩); (have f0 := hw'.c; go_simp; first | exact rfl | exact ⟨rfl, rfl⟩); clear hK K))
      with_reducible refine wpRead_nil ?_
      refine T_one 9 (by kernel_rfl) ?_
      simp only [pick, List.getD_cons_zero, List.getD_cons_succ]
      go_wp2_with fail
      refine (HC.out).mono ?_
      rintro e V2 ⟨v7, rfl, ho7, hb7⟩
      obtain ⟨s7, rfl, hl7, hs7, hn7, hv7⟩ := Own_slok (ok := OkI) ho7 (fun n hn => by
        have h1 := HX.out.1.p.all (x.p.l.getD i default) (getD_mem (by rw [← HPN.out.1]; exact G.out.2.2.2.2.2.2.2.1))
        rw [G.out.2.2.2.2.2.1] at h1
        exact SlOk.all h1 n hn)
      have K2 := Lib.hid (K.out.keep hb7)
      have HL7 := Lib.hid (show s.s.l.length = s7.n from by rw [← hl7]; exact hs7.sl.len.symm)
      have G7 := Lib.hid (And.intro hb7 (And.intro hs7 (And.intro hn7 hl7)))
      clear ho7 hb7 hs7 hn7 hl7 hv7 HC K
      go_wp2_with fail
      refine ⟨fun _ => K2.out, ?_⟩
      refine T_reads [10, 11] (g := 1) rfl (by kernel_rfl) K2.out (fun _ _ d _ _ h => by cases d <;> exact h) ?_
      simp only [pick, List.getD_cons_zero, List.getD_cons_succ]
      iterate 2 ((with_reducible refine wpRead_step (fun K hK => ?_)); go_simp; first | ((with_reducible refine hK _ ?_); clear hK K) | (apply Exists.intro; (with_reducible refine ⟨fun w' hw' => ?_, hK _ ?_⟩); (first | exact rfl | exact ⟨rfl, rfl⟩); clear hK K))
      with_reducible refine wpRead_nil ?_
      refine T_one 12 (by kernel_rfl) ?_
      simp only [pick, List.getD_cons_zero, List.getD_cons_succ]
      have hcur := (G7.out.1.block g (by have := G.out.2.2.2.2.2.2.1; exact this)).trans G.out.2.2.1
      have e0 : V2.frozen? ⟨g, i * 2 + 1, none⟩ = false := free_of hcur
      have c0 := K2.out.c
      have hst := setCell_blk hcur (i * 2 + 1) (.slice s7.a s7.n s7.c)
      have hB1 : But V2 (V2.setCell ⟨g, i * 2 + 1, none⟩ (.slice s7.a s7.n s7.c)) [g] := (But.refl V2 [g]).setCell (a := ⟨g, i * 2 + 1, none⟩) (.inr (by simp)) _
      have hnext : CpI w x (.slice (some ⟨g, 0, none⟩) pn pc) s5 pn pc (i + 1) (some ⟨g, 0, none⟩) (Pl.set i ⟨s.set, s7⟩) (V2.setCell ⟨g, i * 2 + 1, none⟩ (.slice s7.a s7.n s7.c)) := by
        have hI := G.out.1
        have hln := G.out.2.1
        have hlt := G.out.2.2.2.2.2.2.2.1
        have hG1 : V2.grownBy (V2.setCell ⟨g, i * 2 + 1, none⟩ (.slice s7.a s7.n s7.c)) (some g) := ⟨hB1.os, hB1.tape, hB1.output, hB1.size, fun k hk hne => hB1.block k hk (fun hm => hne (by rw [List.mem_singleton] at hm; rw [hm]))⟩
        have hfg := hI.far g rfl
        have hgd : Pl.getD i default = s := by rw [hI.rest i (Nat.le_refl _)]; exact G.out.2.2.2.2.2.1
        refine ⟨?_, ?_, fun j hj => ?_, fun j hj => ?_, ?_, ?_, ?_, hI.far, ?_⟩
        · have h1 := hI.own.below G7.out.1
          refine Rep.own_set h1 hlt _ hcur hst (by simp) fun q => ?_
          rw [Array.getElem?_setIfInBounds]
          have hk2 : RSg.k = 2 := rfl
          rw [hk2]
          by_cases hq : i * 2 + 1 = q
          · subst hq
            rw [if_pos rfl, if_pos (by rw [G.out.2.2.2.2.1, hk2]; have := G.out.2.2.2.2.2.2.2.2; omega), if_pos (by omega), show i * 2 + 1 - i * 2 = 1 by omega]
            rfl
          · rw [if_neg hq]
            by_cases hq2 : i * 2 ≤ q ∧ q < i * 2 + 2
            · obtain rfl : q = i * 2 := by omega
              rw [if_pos hq2, Nat.sub_self]
              have h2 := G.out.2.2.2.1
              have h3 := G.out.2.2.1
              simp only [World.cell?, h3, Option.isSome_none, Bool.false_eq_true, if_false] at h2
              rw [h2]
              rfl
            · rw [if_neg hq2]
        · rw [← hI.sg]
          have h2 : (Pl.set i ⟨s.set, s7⟩).map SgV.sg = Pl.map SgV.sg := by
            apply List.ext_getElem?
            intro j
            rw [List.getElem?_map, List.getElem?_map, List.getElem?_set]
            by_cases hj : i = j
            · subst hj
              rw [if_pos rfl, if_pos (by omega), List.getElem?_eq_getElem (show i < Pl.length by omega)]
              rw [List.getD_eq_getElem?_getD, List.getElem?_eq_getElem (show i < Pl.length by omega), Option.getD_some] at hgd
              rw [hgd]
              show some ((⟨s.set, s7⟩ : SgV).sg) = some s.sg
              unfold SgV.sg
              rw [G7.out.2.2.2]
            · rw [if_neg hj]
          exact h2
        · by_cases e : j = i
          · subst e
            rw [Rep.getD_set _ _ _ _ (by omega), if_pos rfl]
            refine ⟨?_, fun hn a e => Nat.le_trans (lt_of_blk hI.z) (G7.out.2.2.1 hn a e)⟩
            refine Firm.turn (w := V2) (g := some g) (g' := some g) (SlOk.firmI G7.out.2.1 (G7.out.2.2.1.far fun k hk => ?_)) hG1 (fun _ _ e => e)
            injection hk with hk
            rw [← hk]
            exact G.out.2.2.2.2.2.2.1
          · rw [Rep.getD_set _ _ _ _ (by omega), if_neg e]
            have h1 := hI.ok j (by omega)
            exact ⟨Firm.turn (g' := some g) (h1.1.below G7.out.1) hG1 (fun _ _ e => e), h1.2⟩
        · have hne : j ≠ i := by omega
          have h1 := hI.rest j (by omega)
          rw [← h1]
          simp only [List.getD_eq_getElem?_getD, List.getElem?_set, if_neg (show ¬ i = j by omega)]
        · exact (hB1.block _ (lt_of_blk (hI.bx.keep G7.out.1)) (by rw [List.mem_singleton]; omega)).trans (hI.bx.keep G7.out.1)
        · have hz2 := (G7.out.1.block _ (lt_of_blk hI.z)).trans hI.z
          exact (hB1.block _ (lt_of_blk hz2) (by rw [List.mem_singleton]; omega)).trans hz2
        · exact Firm.turn (g' := some g) (hI.c.below G7.out.1) hG1 (fun _ _ e => e)
        · exact (bcall hI.old (Nat.le_refl _) G7.out.1).trans (grown_below hG1 (Nat.le_trans hI.old.size G7.out.1.size) (fun k hk => by injection hk with hk; omega))
      have HN := Lib.hid hnext
      have hlt := G.out.2.2.2.2.2.2.2.1
      clear hnext hst hB1 hcur
      go_wp2_with fail
      refine ⟨fun h => absurd rfl h, ?_⟩
      refine T_done (by kernel_rfl) ?_ _
      clear e0 c0
      go_wp2_with fail
      exact ⟨⟨i + 1, _, hlt, by first | rw [hw3] | rw [Int.natCast_succ], HN.out⟩, by first | (rw [hw3]; exact mSucc hlt) | (rw [← Int.natCast_succ]; exact mSucc hlt)⟩
    · obtain rfl : i = pn := by omega
      have hil : ((i : Int) < (i : Int)) = False := by simp
      have hc1 := hI.bx.cells
      dsimp only at hc1
      obtain ⟨f0, f1, f2, f3, f4, f5⟩ := hc1
      have hln : i = Pl.length := by
        have h1 := congrArg List.length hI.sg
        rw [List.length_map, List.length_map, ← HPN.out.1] at h1
        exact h1.symm
      have G := Lib.hid (And.intro hI hln)
      clear hI hln hi
      go_wp2_with (with_reducible refine halt_store 40 (x := .tmp 2) rfl ?_)
      refine Halted.go ?_
      refine store_whole rfl 40 _ _ rfl (w.heap.size + 1) #[.int .i64 x.o, .slice pa i pc, .int .u32 x.nx, .int .i64 x.md, .int .i64 x.pf, .slice s5.a s5.n s5.c] rfl rfl G.out.1.z rfl (by kernel_rfl) (by simp [Value.oneCell']) ?_
      intro Wz hwz hsz
      have hgr : w4.grownBy Wz (some (w.heap.size + 1)) := ⟨hsz.os, hsz.tape, hsz.output, by rw [hsz.size]; exact Nat.le_refl _, fun k hk hne => hsz.other (fun e => hne (by rw [e]))⟩
      have hfin : AtOk Wz ⟨x.o, ⟨pa, i, pc, Pl⟩, x.nx, x.md, x.pf, s5⟩ ∧ NewA w.heap.size ⟨x.o, ⟨pa, i, pc, Pl⟩, x.nx, x.md, x.pf, s5⟩ ∧ AtV.at ⟨x.o, ⟨pa, i, pc, Pl⟩, x.nx, x.md, x.pf, s5⟩ = x.at ∧ Below w.heap.size w Wz := by
        have hI := G.out.1
        have hown := hI.own
        have hle : i = Pl.length := G.out.2
        have hS1 : ∀ y ∈ Pl, SgOk Wz y ∧ NewS w.heap.size y.s := by
          intro y hy
          obtain ⟨j, hj, rfl⟩ := List.getElem_of_mem hy
          have h1 := hI.ok j (by omega)
          rw [List.getD_eq_getElem?_getD, List.getElem?_eq_getElem hj, Option.getD_some] at h1
          have h2 : SlOk RI OkI w4 (Pl[j]).s := h1.1.now
          exact ⟨(h2.firmI (g := some (w.heap.size + 1)) (h1.2.far fun k hk => by injection hk with hk; omega)) Wz hgr, fun hn a e => Nat.le_trans (Nat.le_add_right _ _) (h1.2 hn a e)⟩
        have hPS : SlOk RSg SgOk Wz ⟨pa, i, pc, Pl⟩ ∧ NewS w.heap.size (⟨pa, i, pc, Pl⟩ : SlV SgV) := by
          have h3 := hown
          rw [hle] at h3
          have h4 : RSg.Own Wz w.heap.size (.slice pa Pl.length pc) Pl := h3.keep fun b hb => hgr.block b (World.ownsRow.lt h3 b hb).2 (fun e => by
            injection e with e
            have := hI.far b (by rw [hle]; exact hb)
            omega)
          obtain ⟨⟨ta, tn, tc, tl⟩, e1, e2, e3, e4, -⟩ := Own_slok (ok := SgOk) h4 (fun y hy => (hS1 y hy).1)
          injection e1 with e5 e6 e7
          dsimp only at e2 e5 e6 e7
          subst e2
          subst e5
          subst e7
          rw [hle, e6]
          exact ⟨e3, e4⟩
        refine ⟨⟨hPS.1, (hI.c.now.firmI (g := some (w.heap.size + 1)) (HPN.out.2.2.1.far fun k hk => by injection hk with hk; omega)) Wz hgr, HX.out.1.o, HX.out.1.nx, HX.out.1.md, HX.out.1.pf⟩, ⟨hPS.2, fun hn a e => Nat.le_trans (Nat.le_add_right _ _) (HPN.out.2.2.1 hn a e), fun y hy => (hS1 y hy).2⟩, ?_, ?_⟩
        · unfold AtV.at
          dsimp only
          rw [hI.sg, HPN.out.2.2.2.1]
        · exact hI.old.trans (grown_below hgr hI.old.size (fun k hk => by injection hk with hk; omega))
      have HF := Lib.hid hfin
      clear f0 f1 f2 f3 f4 f5 hgr hfin
      have HW := Lib.hid hwz
      clear hwz hsz
      go_wp2_with fail
      refine ret_cell rfl rfl rfl HW.out Tryz.underlying40 rfl (by kernel_rfl) ?_
      exact ⟨_, rfl, HF.out⟩
end Go.Proofs.YtadoflcomienoaaGreat
/- Which updates may not be; whether an AS is on a path. -/
namespace Go.Proofs.YtadoflcomienoaaGreat
open Go.RowKit

set_option maxRecDepth 100000 in
set_option maxHeartbeats 1000000 in
theorem idx_nl {w : World} {oa : Option Addr} {n c : Nat} {L : List Nl} {P : Nl → Bool} (h : RNl.Sl w oa n c L) (hc : ∀ (W : World) (y : Nl), Below w.heap.size w W → y ∈ L → Calls Tryz.prog 121 #[.agg #[.int .i64 y.id, .int .u32 (y.a : Int), .int .i64 y.ln]] W fun e w' => e = .returned (.bool (!P y)) ∧ Below W.heap.size W w') : Calls Tryz.prog 154 #[.slice oa n c, .func (.func 121) #[] #[]] w fun e w' => (∃ k : Int, e = .returned (.int .i64 k) ∧ decide (0 ≤ k) = !(L.all P)) ∧ Below w.heap.size w w' := by
  have HL := Lib.hid h.len
  have F := Lib.hid (And.intro h hc)
  have hmax := h.max
  clear h hc
  go_enter Tryz.func154, Tryz.ntmps154
  go_wp2_with fail
  go_loopw [8] (fun iv wr => ∃ i : Nat, i ≤ n ∧ iv = .int .i64 i ∧ (L.take i).all P = true ∧ Below w.heap.size w wr) (fun iv _ => n - (intOf iv).toNat)
  case atStart => exact ⟨0, Nat.zero_le _, rfl, rfl, Below.refl _ _⟩
  case round =>
    obtain ⟨i, hi, rfl, hall, hb⟩ := hrel
    obtain ⟨w2, rfl⟩ : ∃ w2 : World, w2 = wr := ⟨_, rfl⟩
    by_cases hlt : i < n
    · have hil : ((i : Int) < (n : Int)) = True := by simp; omega
      have hw3 := wrapS hlt hmax
      have hlen : L.length = n := HL.out.symm
      obtain ⟨b0, o0, rfl, hbb, hat⟩ := (F.out.1.keep hb).at hlt
      have c0 := hat 0 (by decide)
      have c1 := hat 1 (by decide)
      have c2 := hat 2 (by decide)
      simp only [RNl, Nat.add_zero, List.getElem?_cons_zero, List.getElem?_cons_succ] at c0 c1 c2
      have t1 := all_take_s L P i (by omega)
      rw [hall, Bool.true_and] at t1
      have hmem : L.getD i default ∈ L := getD_mem (by omega)
      have hox := F.out.2 w2 (L.getD i default) hb hmem
      generalize L.getD i default = y at *
      obtain ⟨bo, hbo⟩ : ∃ bo, P y = bo := ⟨_, rfl⟩
      rw [hbo] at hox t1
      have HX := Lib.hid hox
      have HB := Lib.hid hb
      have HT := Lib.hid (And.intro t1 (And.intro hmem hbo))
      clear hox hb hat hlen t1 hmem hall hbo
      go_wp2_with fail
      refine (HX.out).mono ?_
      rintro e W3 ⟨rfl, hb3⟩
      have HB3 := Lib.hid (bcall HB.out (Nat.le_refl _) hb3)
      clear hb3 HB c0 c1 c2 HX
      cases bo with
      | true =>
        rw [Bool.not_true]
        go_wp2_with fail
        exact ⟨⟨i + 1, hlt, by first | rw [hw3] | rw [Int.natCast_succ], HT.out.1, HB3.out⟩, by first | (rw [hw3]; exact mSucc hlt) | (rw [← Int.natCast_succ]; exact mSucc hlt)⟩
      | false =>
        rw [Bool.not_false]
        go_wp2_with fail
        go_ret
        have hno : L.all P = false := by
          rw [List.all_eq_false]
          exact ⟨_, HT.out.2.1, by simp [HT.out.2.2]⟩
        exact ⟨⟨_, rfl, by rw [hno]; simp⟩, HB3.out⟩
    · obtain rfl : n = i := by omega
      have hil : ((n : Int) < (n : Int)) = False := by simp
      have HB := Lib.hid hb
      have HA := Lib.hid (show L.all P = true from by
        have := hall
        rwa [HL.out, List.take_length] at this)
      clear hb hall
      go_wp2_with fail
      go_ret
      exact ⟨⟨_, rfl, by rw [HA.out]; rfl⟩, HB.out⟩
set_option maxRecDepth 100000 in
theorem has_nl {w : World} {oa : Option Addr} {n c : Nat} {L : List Nl} {P : Nl → Bool} (h : RNl.Sl w oa n c L) (hc : ∀ (W : World) (y : Nl), Below w.heap.size w W → y ∈ L → Calls Tryz.prog 121 #[.agg #[.int .i64 y.id, .int .u32 (y.a : Int), .int .i64 y.ln]] W fun e w' => e = .returned (.bool (!P y)) ∧ Below W.heap.size W w') : Calls Tryz.prog 123 #[.slice oa n c, .func (.func 121) #[] #[]] w fun e w' => e = .returned (.bool (!(L.all P))) ∧ Below w.heap.size w w' := by
  have HK := Lib.hid (idx_nl h hc)
  clear h hc
  go_enter Tryz.func123, Tryz.ntmps123
  go_wp2_with fail
  refine (HK.out).mono ?_
  rintro e w1 ⟨⟨k, rfl, hk⟩, hb⟩
  have HB := Lib.hid (And.intro hk hb)
  clear hk hb
  go_wp2_with fail
  go_ret
  exact ⟨ret_bool (by rw [← HB.out.1]), HB.out.2⟩
set_option maxRecDepth 100000 in
set_option maxHeartbeats 1000000 in
theorem idx_ha {w : World} {oa : Option Addr} {n c : Nat} {L : List SgV} {P : SgV → Bool} {q : Nat} (h : RSg.Sl w oa n c L) (hc : ∀ (W : World) (y : SgV), Below w.heap.size w W → y ∈ L → Calls Tryz.prog 125 #[.agg #[.bool y.set, .slice y.s.a y.s.n y.s.c], .pointer (some ⟨q, 0, none⟩)] W fun e w' => e = .returned (.bool (!P y)) ∧ Below W.heap.size W w') : Calls Tryz.prog 144 #[.slice oa n c, .func (.func 125) #[] #[.pointer (some ⟨q, 0, none⟩)]] w fun e w' => (∃ k : Int, e = .returned (.int .i64 k) ∧ decide (0 ≤ k) = !(L.all P)) ∧ Below w.heap.size w w' := by
  have HL := Lib.hid h.len
  have F := Lib.hid (And.intro h hc)
  have hmax := h.max
  clear h hc
  go_enter Tryz.func144, Tryz.ntmps144
  go_wp2_with fail
  go_loopw [8] (fun iv wr => ∃ i : Nat, i ≤ n ∧ iv = .int .i64 i ∧ (L.take i).all P = true ∧ Below w.heap.size w wr) (fun iv _ => n - (intOf iv).toNat)
  case atStart => exact ⟨0, Nat.zero_le _, rfl, rfl, Below.refl _ _⟩
  case round =>
    obtain ⟨i, hi, rfl, hall, hb⟩ := hrel
    obtain ⟨w2, rfl⟩ : ∃ w2 : World, w2 = wr := ⟨_, rfl⟩
    by_cases hlt : i < n
    · have hil : ((i : Int) < (n : Int)) = True := by simp; omega
      have hw3 := wrapS hlt hmax
      have hlen : L.length = n := HL.out.symm
      obtain ⟨b0, o0, rfl, hbb, hat⟩ := (F.out.1.keep hb).at hlt
      have c0 := hat 0 (by decide)
      have c1 := hat 1 (by decide)
      simp only [RSg, Nat.add_zero, List.getElem?_cons_zero, List.getElem?_cons_succ] at c0 c1
      have t1 := all_take_s L P i (by omega)
      rw [hall, Bool.true_and] at t1
      have hmem : L.getD i default ∈ L := getD_mem (by omega)
      have hox := F.out.2 w2 (L.getD i default) hb hmem
      generalize L.getD i default = y at *
      obtain ⟨bo, hbo⟩ : ∃ bo, P y = bo := ⟨_, rfl⟩
      rw [hbo] at hox t1
      have HX := Lib.hid hox
      have HB := Lib.hid hb
      have HT := Lib.hid (And.intro t1 (And.intro hmem hbo))
      clear hox hb hat hlen t1 hmem hall hbo
      go_wp2_with fail
      refine (HX.out).mono ?_
      rintro e W3 ⟨rfl, hb3⟩
      have HB3 := Lib.hid (bcall HB.out (Nat.le_refl _) hb3)
      clear hb3 HB c0 c1 HX
      cases bo with
      | true =>
        rw [Bool.not_true]
        go_wp2_with fail
        exact ⟨⟨i + 1, hlt, by first | rw [hw3] | rw [Int.natCast_succ], HT.out.1, HB3.out⟩, by first | (rw [hw3]; exact mSucc hlt) | (rw [← Int.natCast_succ]; exact mSucc hlt)⟩
      | false =>
        rw [Bool.not_false]
        go_wp2_with fail
        go_ret
        have hno : L.all P = false := by
          rw [List.all_eq_false]
          exact ⟨_, HT.out.2.1, by simp [HT.out.2.2]⟩
        exact ⟨⟨_, rfl, by rw [hno]; simp⟩, HB3.out⟩
    · obtain rfl : n = i := by omega
      have hil : ((n : Int) < (n : Int)) = False := by simp
      have HB := Lib.hid hb
      have HA := Lib.hid (show L.all P = true from by
        have := hall
        rwa [HL.out, List.take_length] at this)
      clear hb hall
      go_wp2_with fail
      go_ret
      exact ⟨⟨_, rfl, by rw [HA.out]; rfl⟩, HB.out⟩
set_option maxRecDepth 100000 in
theorem has_ha {w : World} {oa : Option Addr} {n c : Nat} {L : List SgV} {P : SgV → Bool} {q : Nat} (h : RSg.Sl w oa n c L) (hc : ∀ (W : World) (y : SgV), Below w.heap.size w W → y ∈ L → Calls Tryz.prog 125 #[.agg #[.bool y.set, .slice y.s.a y.s.n y.s.c], .pointer (some ⟨q, 0, none⟩)] W fun e w' => e = .returned (.bool (!P y)) ∧ Below W.heap.size W w') : Calls Tryz.prog 108 #[.slice oa n c, .func (.func 125) #[] #[.pointer (some ⟨q, 0, none⟩)]] w fun e w' => e = .returned (.bool (!(L.all P))) ∧ Below w.heap.size w w' := by
  have HK := Lib.hid (idx_ha h hc)
  clear h hc
  go_enter Tryz.func108, Tryz.ntmps108
  go_wp2_with fail
  refine (HK.out).mono ?_
  rintro e w1 ⟨⟨k, rfl, hk⟩, hb⟩
  have HB := Lib.hid (And.intro hk hb)
  clear hk hb
  go_wp2_with fail
  go_ret
  exact ⟨ret_bool (by rw [← HB.out.1]), HB.out.2⟩
theorem nb_pos {n : Nl} : 0 < (nb true n).length := by
  unfold nb
  simp [be_length]
  omega
set_option maxRecDepth 100000 in
theorem odd1_any (n : Nl) (ha : n.a < 4294967296) (w : World) : Calls Tryz.prog 121 #[.agg #[.int .i64 n.id, .int .u32 (n.a : Int), .int .i64 n.ln]] w fun e w' => e = .returned (.bool (!okN true n)) ∧ Below w.heap.size w w' := by
  have hal := (Below.refl w.heap.size w).alloc (Nat.le_refl _) (.cells #[.int .i64 n.id, .int .u32 (n.a : Int), .int .i64 n.ln] 60)
  have HC := nsize_any true n ha (w.alloc (.cells #[.int .i64 n.id, .int .u32 (n.a : Int), .int .i64 n.ln] 60))
  unfold Nl.v at HC
  obtain ⟨z, hz⟩ : ∃ z : Nat, (if okN true n then (nb true n).length else 0 : Nat) = z := ⟨_, rfl⟩
  rw [hz] at HC
  have HC := Lib.hid HC
  obtain ⟨v, hv⟩ : ∃ v, okN true n = v := ⟨_, rfl⟩
  rw [hv] at hz ⊢
  have e1 : ((z : Int) == 0) = !v := by
    cases v with
    | true =>
      have := @nb_pos n
      rw [if_pos rfl] at hz
      show ((z : Int) == 0) = false
      rw [beq_eq_false_iff_ne]
      omega
    | false =>
      have h0 : 0 = z := hz
      subst h0
      rfl
  have F := Lib.hid hal
  clear hal hz hv ha
  go_enter Tryz.func121, Tryz.ntmps121
  go_wp2_with fail
  refine (HC.out).mono ?_
  rintro e w1 ⟨rfl, hb⟩
  have F1 := Lib.hid (bcall F.out (Nat.le_refl _) hb)
  clear hb
  go_wp2_with fail
  go_ret
  exact ⟨rfl, F1.out⟩
set_option maxRecDepth 100000 in
set_option maxHeartbeats 1000000 in
theorem idxi_any {w : World} {oa : Option Addr} {n c : Nat} {L : List Int} (v : Int) (h : RI.Sl w oa n c L) : Calls Tryz.prog 156 #[.slice oa n c, .int .i64 v] w fun e w' => (∃ k : Int, e = .returned (.int .i64 k) ∧ decide (0 ≤ k) = L.any fun y => decide (y = v)) ∧ w' = w := by
  have HL := Lib.hid h.len
  have F := Lib.hid h
  have hmax := h.max
  clear h
  go_enter Tryz.func156, Tryz.ntmps156
  go_wp2_with fail
  go_loopw [8] (fun iv wr => ∃ i : Nat, i ≤ n ∧ iv = .int .i64 i ∧ (∀ j, j < i → L.getD j default ≠ v) ∧ wr = w) (fun iv _ => n - (intOf iv).toNat)
  case atStart => exact ⟨0, Nat.zero_le _, rfl, fun j hj => absurd hj (Nat.not_lt_zero _), rfl⟩
  case round =>
    obtain ⟨i, hi, rfl, hall, rfl⟩ := hrel
    by_cases hlt : i < n
    · have hil : ((i : Int) < (n : Int)) = True := by simp; omega
      have hi0 : ((0 : Int) ≤ (i : Int)) = True := by simp
      have hw3 := wrapS hlt hmax
      obtain ⟨b0, o0, rfl, hbb, hat⟩ := F.out.at hlt
      have c0 := hat 0 (by decide)
      simp only [RI, Nat.add_zero, List.getElem?_cons_zero, Nat.mul_one] at c0
      obtain ⟨y, hy⟩ : ∃ y, L.getD i default = y := ⟨_, rfl⟩
      rw [hy] at c0
      have K := Lib.hid (And.intro hall hy)
      clear hall hy hat hbb
      by_cases hvy : v = y
      · have e1 : (v == y) = true := by simp [hvy]
        have HV := Lib.hid hvy
        clear hvy
        go_wp2_with fail
        go_ret
        refine ⟨⟨_, rfl, ?_⟩, rfl⟩
        have h1 : L.any (fun y => decide (y = v)) = true := by
          rw [List.any_eq_true]
          exact ⟨y, by rw [← K.out.2]; exact getD_mem (by rw [← HL.out]; exact hlt), by simp [HV.out]⟩
        rw [h1]
        simp
      · have e1 : (v == y) = false := by simpa using hvy
        have HV := Lib.hid hvy
        clear hvy
        go_wp2_with fail
        exact ⟨⟨i + 1, hlt, by first | rw [hw3] | rw [Int.natCast_succ], (fun j hj => (Nat.lt_succ_iff_lt_or_eq.1 hj).elim (K.out.1 j) (fun e => by rw [e, K.out.2]; exact Ne.symm HV.out)), by first | exact trivial | rfl⟩, by first | (rw [hw3]; exact mSucc hlt) | (rw [← Int.natCast_succ]; exact mSucc hlt)⟩
    · obtain rfl : n = i := by omega
      have hil : ((n : Int) < (n : Int)) = False := by simp
      have HB := Lib.hid hall
      clear hall
      go_wp2_with fail
      go_ret
      refine ⟨⟨_, rfl, ?_⟩, rfl⟩
      have h1 : L.any (fun y => decide (y = v)) = false := by
        rw [List.any_eq_false]
        intro y hy
        obtain ⟨j, hj, rfl⟩ := List.getElem_of_mem hy
        have := HB.out j (by rw [HL.out]; exact hj)
        rw [List.getD_eq_getElem?_getD, List.getElem?_eq_getElem hj, Option.getD_some] at this
        simpa using this
      rw [h1]
      rfl
theorem coni_any {w : World} {oa : Option Addr} {n c : Nat} {L : List Int} (v : Int) (h : RI.Sl w oa n c L) : Calls Tryz.prog 126 #[.slice oa n c, .int .i64 v] w fun e w' => e = .returned (.bool (L.any fun y => decide (y = v))) ∧ w' = w := by
  have HC := Lib.hid (idxi_any v h)
  clear h
  go_enter Tryz.func126, Tryz.ntmps126
  go_wp2_with fail
  refine (HC.out).mono ?_
  rintro e w1 ⟨⟨k, rfl, hk⟩, hw⟩
  have hw := hw.symm
  subst hw
  have HK := Lib.hid hk
  clear hk
  go_wp2_with fail
  go_ret
  exact ⟨ret_bool HK.out, rfl⟩
set_option maxRecDepth 100000 in
theorem has1_any {w : World} {q : Nat} {asn : Int} (hq : w.heap[q]? = some (.cells #[.int .i64 asn] 3)) {y : SgV} (hy : SgOk w y) : Calls Tryz.prog 125 #[.agg #[.bool y.set, .slice y.s.a y.s.n y.s.c], .pointer (some ⟨q, 0, none⟩)] w fun e w' => e = .returned (.bool (!(!(y.s.l.any fun n => decide (n = asn))))) ∧ Below w.heap.size w w' := by
  have hal := (Below.refl w.heap.size w).alloc (Nat.le_refl _) (.cells #[.bool y.set, .slice y.s.a y.s.n y.s.c] 134)
  have hb : (w.alloc (.cells #[.bool y.set, .slice y.s.a y.s.n y.s.c] 134)).heap[w.heap.size]? = some (.cells #[.bool y.set, .slice y.s.a y.s.n y.s.c] 134) := hnew _ _
  have hq2 := (hal.block _ (lt_of_blk hq)).trans hq
  have HC := Lib.hid (coni_any (c := y.s.c) asn (hy.sl.keep hal))
  have c0 := cell_of (o := 0) hb rfl
  have c1 := cell_of (o := 1) hb rfl
  have c2 := cell_of (o := 0) hq2 rfl
  have F := Lib.hid hal
  rw [Bool.not_not]
  generalize (y.s.l.any fun n => decide (n = asn)) = v at *
  clear hal hb hq2 hq hy
  go_enter Tryz.func125, Tryz.ntmps125
  go_wp2_with fail
  refine (HC.out).mono ?_
  rintro e w1 ⟨rfl, hw⟩
  have hw := hw.symm
  subst hw
  go_wp2_with fail
  go_ret
  exact ⟨rfl, F.out⟩
set_option maxRecDepth 100000 in
theorem has_any {w : World} {x : AtV} (hx : AtOk w x) (asn : Int) : Calls Tryz.prog 82 #[x.v, .int .i64 asn] w fun e w' => e = .returned (.bool (hasAS x.at asn)) ∧ Below w.heap.size w w' := by
  have hal := ((Below.refl w.heap.size w).alloc (Nat.le_refl _) (.cells #[.int .i64 x.o, .slice x.p.a x.p.n x.p.c, .int .u32 x.nx, .int .i64 x.md, .int .i64 x.pf, .slice x.c.a x.c.n x.c.c] 40)).alloc (by simp) (.cells #[.int .i64 asn] 3)
  have hX : BxA w.heap.size x ((w.alloc (.cells #[.int .i64 x.o, .slice x.p.a x.p.n x.p.c, .int .u32 x.nx, .int .i64 x.md, .int .i64 x.pf, .slice x.c.a x.c.n x.c.c] 40)).alloc (.cells #[.int .i64 asn] 3)) := hold (hnew _ _)
  have hI : ((w.alloc (.cells #[.int .i64 x.o, .slice x.p.a x.p.n x.p.c, .int .u32 x.nx, .int .i64 x.md, .int .i64 x.pf, .slice x.c.a x.c.n x.c.c] 40)).alloc (.cells #[.int .i64 asn] 3)).heap[w.heap.size + 1]? = some (.cells #[.int .i64 asn] 3) := hnewAt (by simp)
  have HC := has_ha (c := x.p.c) (P := fun y => !(y.s.l.any fun n => decide (n = asn))) (hx.keep hal).p.sl (fun W y hb hy => has1_any ((hb.block _ (lt_of_blk hI)).trans hI) (((hx.keep hal).p.all y hy).keep hb))
  have he : (!(x.p.l.all fun y => !(y.s.l.any fun n => decide (n = asn)))) = hasAS x.at asn := by
    unfold hasAS AtV.at
    dsimp only
    rw [List.any_map, List.not_all_eq_any_not]
    congr 1
    funext y
    rw [Bool.not_not]
    rfl
  rw [he] at HC
  have HC := Lib.hid HC
  have F := Lib.hid hal
  obtain ⟨c0, c1, c2, c3, c4, c5⟩ := hX.cells
  have d0 := cell_of (o := 0) hI rfl
  unfold AtV.v
  clear hal hX hI he hx
  go_enter Tryz.func82, Tryz.ntmps82
  go_wp2_with fail
  refine (HC.out).mono ?_
  rintro e w1 ⟨rfl, hb⟩
  have F1 := Lib.hid (bcall F.out (Nat.le_refl _) hb)
  clear hb
  go_wp2_with fail
  go_ret
  exact ⟨rfl, F1.out⟩
def oddR (u : Up) : Bool := !((u.gone.all (okN true) && u.routes.all (okN true)) && (decide (u.routes.length = 0) || (!u.soft && okA true u.a)))
set_option maxRecDepth 100000 in
set_option maxHeartbeats 4000000 in
theorem rodd_any {w : World} {x : UpV} (hx : UpOk w x) : Calls Tryz.prog 79 #[x.v] w fun e w' => e = .returned (.bool (oddR x.up)) ∧ Below w.heap.size w w' := by
  have hal := (Below.refl w.heap.size w).alloc (Nat.le_refl _) (.cells #[.slice x.g.a x.g.n x.g.c, .slice x.r.a x.r.n x.r.c, .int .i64 x.a.o, .slice x.a.p.a x.a.p.n x.a.p.c, .int .u32 x.a.nx, .int .i64 x.a.md, .int .i64 x.a.pf, .slice x.a.c.a x.a.c.n x.a.c.c, .bool x.soft] 42)
  have hX : BxU w.heap.size x (w.alloc (.cells #[.slice x.g.a x.g.n x.g.c, .slice x.r.a x.r.n x.r.c, .int .i64 x.a.o, .slice x.a.p.a x.a.p.n x.a.p.c, .int .u32 x.a.nx, .int .i64 x.a.md, .int .i64 x.a.pf, .slice x.a.c.a x.a.c.n x.a.c.c, .bool x.soft] 42)) := hnew _ _
  have hx' := hx.keep hal
  have H1 := Lib.hid (has_nl (c := x.g.c) (P := okN true) hx'.g.sl (fun W y _ hy => odd1_any y (hx'.g.all y hy).1 W))
  have HL := Lib.hid (show x.r.n = x.r.l.length from hx.r.sl.len)
  have F := Lib.hid (And.intro hal (And.intro hX hx'))
  obtain ⟨c0, c1, c2, c3, c4, c5, c6, c7, c8⟩ := hX.cells
  unfold UpV.v
  obtain ⟨v, hv⟩ : ∃ v, oddR x.up = v := ⟨_, rfl⟩
  rw [hv]
  unfold oddR UpV.up at hv
  dsimp only at hv
  obtain ⟨b1, hb1⟩ : ∃ b, x.g.l.all (okN true) = b := ⟨_, rfl⟩
  obtain ⟨b2, hb2⟩ : ∃ b, x.r.l.all (okN true) = b := ⟨_, rfl⟩
  obtain ⟨b3, hb3⟩ : ∃ b, okA true x.a.at = b := ⟨_, rfl⟩
  rw [hb1, hb2, hb3] at hv
  rw [hb1] at H1
  have HB := Lib.hid (And.intro hb2 hb3)
  have HV := Lib.hid hv
  clear hal hX hx' hx hv hb1 hb2 hb3
  cases b1 with
  | false =>
    go_enter Tryz.func79, Tryz.ntmps79
    go_wp2_with fail
    refine (H1.out).mono ?_
    rintro e w1 ⟨rfl, hb⟩
    have F1 := Lib.hid (bcall F.out.1 (Nat.le_refl _) hb)
    clear hb
    go_wp2_with fail
    go_ret
    exact ⟨ret_bool (by rw [← HV.out]; simp), F1.out⟩
  | true =>
    go_enter Tryz.func79, Tryz.ntmps79
    go_wp2_with fail
    refine (H1.out).mono ?_
    rintro e w1 ⟨rfl, hb⟩
    have hX1 := F.out.2.1.keep hb
    have hx1 := F.out.2.2.keep hb
    have H2 := has_nl (c := x.r.c) (P := okN true) hx1.r.sl (fun W y _ hy => odd1_any y (hx1.r.all y hy).1 W)
    rw [HB.out.1] at H2
    have H2 := Lib.hid H2
    have F1 := Lib.hid (And.intro (bcall F.out.1 (Nat.le_refl _) hb) (And.intro hX1 hx1))
    clear c0 c1 c2 c3 c4 c5 c6 c7 c8
    obtain ⟨c0, c1, c2, c3, c4, c5, c6, c7, c8⟩ := hX1.cells
    clear hb hX1 hx1 F H1
    go_wp2_with fail
    refine (H2.out).mono ?_
    rintro e w2 ⟨rfl, hb⟩
    have hX1 := F1.out.2.1.keep hb
    have hx1 := F1.out.2.2.keep hb
    have H3 := acheck_any hx1.a true
    rw [HB.out.2] at H3
    unfold AtV.v at H3
    have H3 := Lib.hid H3
    have F2 := Lib.hid (bcall F1.out.1 (Nat.le_refl _) hb)
    clear c0 c1 c2 c3 c4 c5 c6 c7 c8
    obtain ⟨c0, c1, c2, c3, c4, c5, c6, c7, c8⟩ := hX1.cells
    clear hb hX1 hx1 F1 H2 HB
    cases b2 with
    | false =>
      go_wp2_with fail
      go_ret
      exact ⟨ret_bool (by rw [← HV.out]; simp), F2.out⟩
    | true =>
      by_cases h0 : x.r.n = 0
      · have e1 : ((0 : Int) < (x.r.n : Int)) = False := by simp [h0]
        have e1' : (0 < x.r.n) = False := by simp [h0]
        have H0 := Lib.hid (show decide (x.r.l.length = 0) = true by rw [← HL.out]; simp [h0])
        clear h0
        go_wp2_with fail
        go_ret
        exact ⟨ret_bool (by rw [← HV.out, H0.out]; simp), F2.out⟩
      · have e1 : ((0 : Int) < (x.r.n : Int)) = True := eq_true (by omega)
        have e1' : (0 < x.r.n) = True := eq_true (by omega)
        have H0 := Lib.hid (show decide (x.r.l.length = 0) = false by rw [← HL.out]; simp [h0])
        clear h0
        obtain ⟨so, hso⟩ : ∃ s, x.soft = s := ⟨_, rfl⟩
        rw [hso] at HV c8
        clear hso
        cases so with
        | true =>
          go_wp2_with fail
          go_ret
          exact ⟨ret_bool (by rw [← HV.out, H0.out]; simp), F2.out⟩
        | false =>
          go_wp2_with fail
          refine (H3.out).mono ?_
          rintro e w3 ⟨rfl, hb⟩
          have F3 := Lib.hid (bcall F2.out (Nat.le_refl _) hb)
          have e2 := errI_zero b3 (n := 50) (by decide)
          have e3 : (errI b3 50 != 0) = !b3 := by rw [bne, e2]
          clear hb
          go_wp2_with fail
          go_ret
          exact ⟨ret_bool (by rw [← HV.out, H0.out]; simp), F3.out⟩
end Go.Proofs.YtadoflcomienoaaGreat
