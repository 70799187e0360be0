/- DiffMany. -/
import Derived.Test.YtadoflcomienoaaQas
namespace Go.Proofs.Ytadoflcomienoaa
open Go.RowKit

theorem chunksI_congr {α : Type} {f g : List α → Nat} : ∀ (n : Nat) (l : List α), (∀ k, f (l.drop k) = g (l.drop k)) → chunksI f n l = chunksI g n l
  | 0, _, _ => rfl
  | _ + 1, [], _ => rfl
  | n + 1, x :: r, h => by
    have h0 : f (x :: r) = g (x :: r) := h 0
    show (x :: r).take (f (x :: r)) :: chunksI f n ((x :: r).drop (f (x :: r))) = (x :: r).take (g (x :: r)) :: chunksI g n ((x :: r).drop (g (x :: r)))
    rw [h0]
    exact congrArg _ (chunksI_congr n _ fun k => by
      have h1 := h (g (x :: r) + k)
      rw [List.drop_drop]
      exact h1)
theorem fitI_congr {sz sz' : Nl → Nat} : ∀ (L : List Nl) (room cap : Nat), (∀ x ∈ L, sz x = sz' x) → fitI sz room cap L = fitI sz' room cap L
  | [], room, cap, _ => by cases cap <;> rfl
  | x :: r, room, 0, _ => rfl
  | x :: r, room, cap + 1, h => by
    unfold fitI
    rw [h x List.mem_cons_self, fitI_congr r _ _ fun y hy => h y (List.mem_cons_of_mem _ hy)]
theorem szN_16 {n : Nl} (h : n.ln = 16) : szN n = 3 := by
  unfold szN nb pb
  have hb := be_length 4 n.a
  have hs : szB n.ln.toNat = 2 := by rw [h]; rfl
  simp only [Bool.false_eq_true, if_false, List.nil_append, List.length_cons, List.length_take, hs]
  omega
theorem chunks_count3 {room : Nat} {L : List Nl} (h : ∀ x ∈ L, szN x = 3) {F : Nat} (hF : F = min (room / 3) 1024) (h1 : 1 ≤ F) : (chunksI (fitI szN room 1024) L.length L).length = (L.length + F - 1) / F := by
  rw [chunksI_congr (g := fitI (fun _ => 3) room 1024) _ _ fun k => fitI_congr _ _ _ fun x hx => h x (List.mem_of_mem_drop hx)]
  exact chunksI_count h1 (fun l => by rw [hF]; exact fitI_const (by decide) (fun _ _ => rfl) room 1024) _ _ (Nat.le_refl _)
theorem ups_many {four : Bool} {is : List Sy} {a : At} (h16 : ∀ s ∈ is, s.k.2 = 16) (ha : ∀ s ∈ is, s.a = a) (hok : okA four a = true) {F : Nat} (hF : F = min ((4073 - asz four a) / 3) 1024) : (upsI szN (asz four) [] is).length = (is.length + F - 1) / F := by
  have hz := asz_le hok
  have h1 : 1 ≤ F := by rw [hF]; omega
  have e1 : goingI [] is = [] := rfl
  have e2 : newsI [] is = sortK Sy.k is := by
    unfold newsI
    rw [List.filter_eq_self]
    intro s _
    rfl
  unfold upsI
  rw [e1, e2]
  show (comeI szN (asz four) (sortK Sy.k is).length (sortK Sy.k is)).length = _
  have hl := sortK_length (key := Sy.k) is
  have hm : ∀ s ∈ sortK Sy.k is, s ∈ is := fun s hs => (sortK_perm is).mem_iff.1 hs
  cases hS : sortK Sy.k is with
  | nil =>
    rw [hS] at hl
    rw [← hl, comeI_nil]
    show 0 = (0 + F - 1) / F
    rw [Nat.div_eq_of_lt (by omega)]
  | cons s r =>
    have hsa : s.a = a := ha s (hm s (by rw [hS]; exact List.mem_cons_self))
    have hall : ∀ t ∈ s :: r, t.a = s.a := fun t ht => by rw [hsa]; exact ha t (hm t (by rw [hS]; exact ht))
    rw [comeI_step rfl]
    have e3 : restI s.a (s :: r) = [] := by
      unfold restI
      rw [List.filter_eq_nil_iff]
      intro t ht
      simp [hall t ht]
    have e4 : sameI s.a (s :: r) = (s :: r).map Sy.nl := by
      unfold sameI
      rw [List.filter_eq_self.2 fun t ht => decide_eq_true (hall t ht)]
    rw [e3, comeI_nil, List.append_nil, List.length_map, e4]
    unfold fitA
    rw [hsa, chunks_count3 (F := F) (fun n hn => by
      obtain ⟨t, ht, rfl⟩ := List.mem_map.1 hn
      exact szN_16 (h16 t (hm t (by rw [hS]; exact ht)))) hF h1, List.length_map, ← hS, hl]
theorem ups_many2 {four : Bool} {is : List Sy} (h16 : ∀ s ∈ is, s.k.2 = 16) : (upsI szN (asz four) is []).length = (is.length + 1023) / 1024 := by
  have e1 : goingI is [] = (sortK Sy.k is).map Sy.nl := by
    unfold goingI
    rw [List.filter_eq_self.2]
    intro s _
    rfl
  have e2 : newsI is [] = [] := rfl
  unfold upsI
  rw [e1, e2]
  show (goneI szN ((sortK Sy.k is).map Sy.nl) ++ []).length = _
  rw [List.append_nil]
  unfold goneI
  rw [List.length_map, chunks_count3 (F := 1024) (fun n hn => by
    obtain ⟨t, ht, rfl⟩ := List.mem_map.1 hn
    exact szN_16 (h16 t ((sortK_perm is).mem_iff.1 ht))) (by decide) (by decide), List.length_map, sortK_length]
  rfl
theorem subZ (x z : Int) (w : World) : (binOp BinOp.sub 3 (.int .i64 x) (.int .i64 z)).run Try.prog w = .ok (.int .i64 (IntKind.i64.wrap (x - z))) w := by kernel_rfl
theorem addZ (x z : Int) (w : World) : (binOp BinOp.add 3 (.int .i64 x) (.int .i64 z)).run Try.prog w = .ok (.int .i64 (IntKind.i64.wrap (x + z))) w := by kernel_rfl
theorem tdivN (m n : Nat) : (m : Int).tdiv (n : Int) = ((m / n : Nat) : Int) := rfl
/-- so many prefixes with the same attributes -/
def mkL (x : AtV) (i : Nat) : List SyV := (List.range i).map fun j => (⟨(j * 65536, 16), x⟩ : SyV)
theorem mkL_len (x : AtV) (i : Nat) : (mkL x i).length = i := by unfold mkL; rw [List.length_map, List.length_range]
theorem mkL_succ (x : AtV) (i : Nat) : mkL x (i + 1) = mkL x i ++ [⟨(i * 65536, 16), x⟩] := by unfold mkL; rw [List.range_succ, List.map_append]; rfl
theorem mkL_mem {x : AtV} {i : Nat} {s : SyV} (h : s ∈ mkL x i) : ∃ j, j < i ∧ s = ⟨(j * 65536, 16), x⟩ := by
  unfold mkL at h
  obtain ⟨j, hj, rfl⟩ := List.mem_map.1 h
  exact ⟨j, List.mem_range.1 hj, rfl⟩
theorem mkL_ok {four : Bool} {x : AtV} {i : Nat} (h : okA four x.at = true) : okY four ((mkL x i).map SyV.sy) = true := by
  rw [okY_iff]
  refine ⟨fun s hs => ?_, ?_⟩
  · obtain ⟨j, hj, rfl⟩ := mkL_mem hs
    unfold okS
    rw [Bool.and_eq_true]
    refine ⟨okP_iff.2 ⟨by show (0 : Int) ≤ 16; decide, by show (16 : Int) ≤ 32; decide, ?_⟩, h⟩
    show cut (j * 65536) 16 = j * 65536
    unfold cut
    rw [show (2 : Nat) ^ (32 - 16) = 65536 from rfl, Nat.mul_div_cancel _ (by decide)]
  · unfold mkL
    rw [List.map_map]
    rw [List.nodup_iff_pairwise_ne, List.pairwise_map]
    refine List.Pairwise.imp (fun {a b} hab e => hab ?_) (List.nodup_iff_pairwise_ne.1 (List.nodup_range (n := i)))
    have h1 : a * 65536 = b * 65536 := congrArg Prod.fst e
    omega
set_option maxRecDepth 100000 in
set_option maxHeartbeats 16000000 in
theorem many_law {w : World} {n : Int} {x : AtV} (four : Bool) (hn : I64 n) (hx : AtOk w x) : Calls Try.prog 3 #[.int .i64 n, x.v, .bool four] w fun e w' => e = .returned (.bool true) ∧ Below w.heap.size w w' := by
  have hal := (Below.refl w.heap.size w).alloc (Nat.le_refl _) (.cells #[.int .i64 x.o, .slice x.p.a x.p.n x.p.c, .int .u32 x.nx, .int .i64 x.md, .int .i64 x.pf, .slice x.c.a x.c.n x.c.c] 26)
  have hX : BxA w.heap.size x (w.alloc (.cells #[.int .i64 x.o, .slice x.p.a x.p.n x.p.c, .int .u32 x.nx, .int .i64 x.md, .int .i64 x.pf, .slice x.c.a x.c.n x.c.c] 26)) := hnew _ _
  have hsz : (w.alloc (.cells #[.int .i64 x.o, .slice x.p.a x.p.n x.p.c, .int .u32 x.nx, .int .i64 x.md, .int .i64 x.pf, .slice x.c.a x.c.n x.c.c] 26)).heap.size = w.heap.size + 1 := by simp
  have F := Lib.hid (And.intro hal (And.intro hX (And.intro (hx.keep hal) hsz)))
  unfold AtV.v
  obtain ⟨c0, c1, c2, c3, c4, c5⟩ := hX.cells
  clear hal hX hx hsz
  by_cases h1 : n < 0
  · have e1 : (n < 0) = True := eq_true h1
    clear h1 c0 c1 c2 c3 c4 c5
    go_enter Try.func3, Try.ntmps3
    go_wp2_with fail
    refine (lives24 _).mono ?_
    rintro e w9 ⟨rfl, hb⟩
    have F9 := Lib.hid (bcall F.out.1 (by simp) hb)
    clear hb
    go_wp2_with fail
    go_ret
    exact ⟨rfl, F9.out⟩
  · have e1 : (n < 0) = False := eq_false h1
    by_cases h2 : 2500 < n
    · have e2 : (2500 < n) = True := eq_true h2
      clear h1 h2 c0 c1 c2 c3 c4 c5
      go_enter Try.func3, Try.ntmps3
      go_wp2_with fail
      refine (lives24 _).mono ?_
      rintro e w9 ⟨rfl, hb⟩
      have F9 := Lib.hid (bcall F.out.1 (by simp) hb)
      clear hb
      go_wp2_with fail
      go_ret
      exact ⟨rfl, F9.out⟩
    · have e2 : (2500 < n) = False := eq_false h2
      have HLG := Lib.hid (large_any F.out.2.2.1)
      obtain ⟨b1, hb1⟩ : ∃ b, largeA x.at = b := ⟨_, rfl⟩
      rw [hb1] at HLG
      unfold AtV.v at HLG
      clear hb1
      go_enter Try.func3, Try.ntmps3
      go_wp2_with fail
      generalize w.alloc (.cells #[.int .i64 x.o, .slice x.p.a x.p.n x.p.c, .int .u32 x.nx, .int .i64 x.md, .int .i64 x.pf, .slice x.c.a x.c.n x.c.c] 26) = W0 at *
      refine (HLG.out).mono ?_
      rintro e w1 ⟨rfl, hb⟩
      have F1 := Lib.hid (And.intro hb (And.intro (F.out.2.1.keep hb) (F.out.2.2.1.keep hb)))
      clear hb HLG c0 c1 c2 c3 c4 c5
      cases b1 with
      | true =>
        go_wp2_with fail
        refine (lives24 _).mono ?_
        rintro e w9 ⟨rfl, hb⟩
        have F9 := Lib.hid (F.out.1.trans ((bcall F1.out.1 (Nat.le_refl _) hb).mono (by rw [F.out.2.2.2]; exact Nat.le_succ _)))
        clear hb
        go_wp2_with fail
        go_ret
        exact ⟨rfl, F9.out⟩
      | false =>
        have HCK := Lib.hid (racheck_any F1.out.2.2 four)
        obtain ⟨b2, hb2⟩ : ∃ b, okA four x.at = b := ⟨_, rfl⟩
        rw [hb2] at HCK
        have HOK := Lib.hid hb2
        unfold AtV.v at HCK
        obtain ⟨c0, c1, c2, c3, c4, c5⟩ := F1.out.2.1.cells
        clear hb2
        go_wp2_with fail
        refine (HCK.out).mono ?_
        rintro e w2 ⟨rfl, hb⟩
        have F2 := Lib.hid (And.intro (bcall F1.out.1 (Nat.le_refl _) hb) (And.intro (F1.out.2.1.keep hb) (F1.out.2.2.keep hb)))
        clear hb HCK c0 c1 c2 c3 c4 c5
        cases b2 with
        | false =>
          go_wp2_with fail
          refine (lives24 _).mono ?_
          rintro e w9 ⟨rfl, hb⟩
          have F9 := Lib.hid (F.out.1.trans ((bcall F2.out.1 (Nat.le_refl _) hb).mono (by rw [F.out.2.2.2]; exact Nat.le_succ _)))
          clear hb
          go_wp2_with fail
          go_ret
          exact ⟨rfl, F9.out⟩
        | true =>
          obtain ⟨N, rfl⟩ := Int.eq_ofNat_of_zero_le (show 0 ≤ n by omega)
          have hN : N ≤ 2500 := by omega
          have HN := Lib.hid hN
          clear e1 e2 h1 h2 hn
          go_wp2_with fail
          go_loopw [7, 8] (fun lv iv wr => ∃ i : Nat, i ≤ N ∧ iv = .int .i64 i ∧ RSy.Own wr w2.heap.size lv (mkL x i) ∧ Below w2.heap.size w2 wr) (fun _ iv _ => N - (intOf iv).toNat)
          case atStart => exact ⟨0, Nat.zero_le _, rfl, Rep.Own.nil _ _, Below.refl _ _⟩
          case round =>
            obtain ⟨i, hi, rfl, hown, hb⟩ := hrel
            obtain ⟨w4, rfl⟩ : ∃ w4 : World, w4 = wr := ⟨_, rfl⟩
            obtain ⟨oc, cc, rfl, -, -⟩ := hown.sl0
            rw [mkL_len] at hown ⊢
            by_cases hlt : i < N
            · have hil : ((i : Int) < (N : Int)) = True := by simp; omega
              have hw3 := wrapS hlt (show N ≤ maxLen by unfold maxLen; omega)
              obtain ⟨c0, c1, c2, c3, c4, c5⟩ := (F2.out.2.1.keep hb).cells
              have G := Lib.hid (And.intro hown hb)
              skip
              clear hown hb
              go_wp2_with (at_builtin; refine halt ?_)
              refine Halted.go ?_
              have hal := (Below.refl w4.heap.size w4).alloc (Nat.le_refl _) (.cells #[.int .u32 ((i : Int) * 65536), .int .i64 16, .int .i64 x.o, .slice x.p.a x.p.n x.p.c, .int .u32 x.nx, .int .i64 x.md, .int .i64 x.pf, .slice x.c.a x.c.n x.c.c] 35)
              have hce : ((i * 65536 : Nat) : Int) = (i : Int) * 65536 := by omega
              have hone : RSy.Sl (w4.alloc (.cells #[.int .u32 ((i : Int) * 65536), .int .i64 16, .int .i64 x.o, .slice x.p.a x.p.n x.p.c, .int .u32 x.nx, .int .i64 x.md, .int .i64 x.pf, .slice x.c.a x.c.n x.c.c] 35)) (some ⟨w4.heap.size, 0, none⟩) 1 1 [(⟨(i * 65536, 16), x⟩ : SyV)] := Rep.sl_one (R := RSy) (y := (⟨(i * 65536, 16), x⟩ : SyV)) (by
                simp only [RSy, hce]
                exact hnew _ _)
              refine Rep.append_list TSy rfl _ _ rfl rfl (G.out.1.below hal) rfl hone (fun h => by cases h) (by rw [mkL_len]; unfold maxLen; omega) (by rw [mkL_len]; omega) (Nat.le_trans G.out.2.size hal.size) ?_
              intro v9 V9 hown9 hb9 _
              rw [← mkL_succ] at hown9
              obtain ⟨a9, c9, rfl, -, -⟩ := hown9.sl0
              have HO := Lib.hid (And.intro hown9 ((bcall G.out.2 (Nat.le_refl _) hal).trans hb9))
              obtain ⟨n9, hn9⟩ : ∃ n9, (mkL x (i + 1)).length = n9 := ⟨_, rfl⟩
              rw [hn9] at HO ⊢
              clear hown9 hb9 hal hone hce c0 c1 c2 c3 c4 c5 hn9
              go_wp2_with fail
              exact ⟨⟨i + 1, hlt, by first | rw [hw3] | rw [Int.natCast_succ], HO.out⟩, by first | (rw [hw3]; exact mSucc hlt) | (rw [← Int.natCast_succ]; exact mSucc hlt)⟩
            · obtain rfl : i = N := by omega
              have hil : ((i : Int) < (i : Int)) = False := by simp
              have hokx := F2.out.2.2.keep hb
              obtain ⟨⟨la, ln, lc, ll⟩, e1, hl1, hl2, -, -⟩ := Own_slok (ok := SyOk) (by have h9 := hown; rw [← mkL_len x i] at h9; rw [mkL_len] at h9; exact hown) (fun s hs => by
                obtain ⟨j, hj, rfl⟩ := mkL_mem hs
                exact ⟨⟨by show j * 65536 < 4294967296; omega, by show I64 16; unfold I64; decide⟩, hokx⟩)
              injection e1 with ea1 ea2 ea3
              dsimp only at hl1 ea1 ea2 ea3
              subst ea1
              subst ea2
              subst ea3
              subst hl1
              have F3 := Lib.hid (And.intro (bcall F2.out.1 (Nat.le_refl _) hb) (And.intro (F2.out.2.1.keep hb) (And.intro hokx hl2)))
              clear hown hb hokx hl2 hi hlt
              have HU := Lib.hid (dupdates_any (wa := none) (wn := 0) (wc := 0) (wl := []) (four := four) slZ F3.out.2.2.2 (okY_iff.2 ⟨(fun s h => by cases h), List.nodup_nil⟩) (mkL_ok HOK.out) (by omega) (by omega))
              go_wp2_with fail
              refine (HU.out).mono ?_
              rintro e w5 ⟨v, M, rfl, ho, hm, hb⟩
              obtain ⟨⟨xa, xn, xc, xl⟩, rfl, hx1, hx2, -, -⟩ := ho.slok
              dsimp only at hx1
              subst hx1
              have hxn : xn = (upsI szN (asz four) [] ((mkL x i).map SyV.sy)).length := by rw [← show xl.map UpV.up = upsI szN (asz four) [] ((mkL x i).map SyV.sy) from hm, List.length_map]; exact hx2.sl.len
              have F4 := Lib.hid (And.intro (bcall F3.out.1 (Nat.le_refl _) hb) (And.intro (F3.out.2.1.keep hb) (And.intro (F3.out.2.2.1.keep hb) (And.intro (F3.out.2.2.2.keepY hb) hxn))))
              clear ho hm hb hx2 hxn HU F3
              have HU := Lib.hid (dupdates_any (ia := none) (jn := 0) (jc := 0) (il := []) (four := four) F4.out.2.2.2.1 slZ (mkL_ok HOK.out) (okY_iff.2 ⟨(fun s h => by cases h), List.nodup_nil⟩) (by omega) (by omega))
              go_wp2_with fail
              refine (HU.out).mono ?_
              rintro e w6 ⟨v, M, rfl, ho, hm, hb⟩
              obtain ⟨⟨ya, yn, yc, yl⟩, rfl, hy1, hy2, -, -⟩ := ho.slok
              dsimp only at hy1
              subst hy1
              have hyn : yn = (upsI szN (asz four) ((mkL x i).map SyV.sy) []).length := by rw [← show yl.map UpV.up = upsI szN (asz four) ((mkL x i).map SyV.sy) [] from hm, List.length_map]; exact hy2.sl.len
              have h16 : ∀ s ∈ (mkL x i).map SyV.sy, s.k.2 = 16 := fun s hs => by
                obtain ⟨t, ht, rfl⟩ := List.mem_map.1 hs
                obtain ⟨j, hj, rfl⟩ := mkL_mem ht
                rfl
              have hsa : ∀ s ∈ (mkL x i).map SyV.sy, s.a = x.at := fun s hs => by
                obtain ⟨t, ht, rfl⟩ := List.mem_map.1 hs
                obtain ⟨j, hj, rfl⟩ := mkL_mem ht
                rfl
              have hz := asz_le HOK.out
              obtain ⟨az, haz⟩ : ∃ z, asz four x.at = z := ⟨_, rfl⟩
              rw [haz] at hz
              obtain ⟨fit, hfit⟩ : ∃ f, min ((4073 - az) / 3) 1024 = f := ⟨_, rfl⟩
              have hxc : xn = (i + fit - 1) / fit := by
                rw [F4.out.2.2.2.2, ups_many (F := fit) h16 hsa HOK.out (by rw [haz]; exact hfit.symm), List.length_map, mkL_len]
              have hyc : yn = (i + 1023) / 1024 := by rw [hyn, ups_many2 h16, List.length_map, mkL_len]
              have HP := Lib.hid (And.intro haz (And.intro hfit (And.intro hxc hyc)))
              have F5 := Lib.hid (And.intro (bcall F4.out.1 (Nat.le_refl _) hb) (And.intro (F4.out.2.1.keep hb) (F4.out.2.2.1.keep hb)))
              clear ho hm hb hy2 hyn HU F4 h16 hsa haz hxc hyc
              go_wp2_with fail
              refine (lives24 _).mono ?_
              rintro e w7 ⟨rfl, hb⟩
              have F6 := Lib.hid (And.intro (bcall F5.out.1 (Nat.le_refl _) hb) (And.intro (F5.out.2.1.keep hb) (F5.out.2.2.keep hb)))
              clear hb F5
              have HPU := Lib.hid (rput_len F6.out.2.2 HOK.out)
              unfold AtV.v at HPU
              obtain ⟨c0, c1, c2, c3, c4, c5⟩ := F6.out.2.1.cells
              go_wp2_with fail
              refine (HPU.out).mono ?_
              rintro e w8 ⟨v, B, rfl, ho, hl, hb⟩
              obtain ⟨o9, k9, rfl, -, -⟩ := ho.sl0
              rw [hl, HP.out.1]
              have F7 := Lib.hid (F.out.1.trans ((bcall F6.out.1 (Nat.le_refl _) hb).mono (by rw [F.out.2.2.2]; exact Nat.le_succ _)))
              clear ho hl hb c0 c1 c2 c3 c4 c5 HPU F6
              obtain ⟨r0, hr0⟩ : ∃ r, 4073 - az = r := ⟨_, rfl⟩
              obtain ⟨f0, hf0⟩ : ∃ f, r0 / 3 = f := ⟨_, rfl⟩
              have hfl : 1 ≤ fit ∧ fit ≤ 1024 := by omega
              have hcs : (1024 < f0 ∧ fit = 1024) ∨ (¬ 1024 < f0 ∧ fit = f0) := by omega
              have hfb : f0 ≤ 5000 := by omega
              have hw1 : wrap64 (4073 - (az : Int)) = (r0 : Int) := by unfold wrap64; omega
              have hw2 : (4073 : Int) - (az : Int) = (r0 : Int) := by omega
              have hsub : (binOp BinOp.sub 3 (.int .i64 4073) (.int .i64 (az : Int))).run Try.prog w8 = .ok (.int .i64 (r0 : Int)) w8 := by rw [subZ, IntWalk.i64_in _ (by omega), hw2]
              have HQ1 := Lib.hid (show ((r0 : Int)).tdiv 3 = (f0 : Int) from by rw [← hf0]; exact tdivN r0 3)
              have HW := Lib.hid (And.intro hw1 hw2)
              have HCS := Lib.hid hcs
              have hyb : yn ≤ 5000 := Nat.le_trans (Nat.le_of_eq HP.out.2.2.2) (Nat.le_trans (Nat.div_le_self _ _) (by omega))
              have hxb : xn ≤ 5000 := Nat.le_trans (Nat.le_of_eq HP.out.2.2.1) (Nat.le_trans (Nat.div_le_self _ _) (by omega))
              clear hr0 hf0 hfit hz hw1 hw2 hcs
              have sm : ∀ n : Int, 0 ≤ n → n ≤ 100000 → wrap64 n = n := fun n h1 h2 => by unfold wrap64; omega
              have hq2 := sm (f0 : Int) (by omega) (by omega)
              have hy5 := sm (yn : Int) (by omega) (by omega)
              have hx6 := sm (xn : Int) (by omega) (by omega)
              have hy4 := sm ((i : Int) + 1023) (by omega) (by omega)
              have hx4 := sm ((i : Int) + (fit : Int)) (by omega) (by omega)
              have hx5 := sm ((i : Int) + (fit : Int) - 1) (by omega) (by omega)
              have hx7 : ((fit : Int) == 0) = false := by simp; omega
              obtain ⟨t1, ht1⟩ : ∃ t : Nat, i + fit = t := ⟨_, rfl⟩
              obtain ⟨t2, ht2⟩ : ∃ t : Nat, i + fit - 1 = t := ⟨_, rfl⟩
              obtain ⟨t3, ht3⟩ : ∃ t : Nat, i + 1023 = t := ⟨_, rfl⟩
              have hadd1 : (binOp BinOp.add 3 (.int .i64 (i : Int)) (.int .i64 (fit : Int))).run Try.prog w8 = .ok (.int .i64 (t1 : Int)) w8 := by rw [addZ, IntWalk.i64_in _ (by omega), show (i : Int) + (fit : Int) = (t1 : Int) by omega]
              have hsub2 : (binOp BinOp.sub 3 (.int .i64 (t1 : Int)) (.int .i64 1)).run Try.prog w8 = .ok (.int .i64 (t2 : Int)) w8 := by rw [subZ, IntWalk.i64_in _ (by omega), show (t1 : Int) - 1 = (t2 : Int) by omega]
              have hadd3 : (binOp BinOp.add 3 (.int .i64 (i : Int)) (.int .i64 1023)).run Try.prog w8 = .ok (.int .i64 (t3 : Int)) w8 := by rw [addZ, IntWalk.i64_in _ (by omega), show (i : Int) + 1023 = (t3 : Int) by omega]
              have hy3 : ((t3 : Int)).tdiv 1024 = (yn : Int) := by rw [HP.out.2.2.2, ht3]; exact tdivN _ _
              have hx3 : ((t2 : Int)).tdiv (fit : Int) = (xn : Int) := by rw [HP.out.2.2.1, ht2]; exact tdivN _ _
              have hv : wrap64 ((wrap64 (4073 - (az : Int))).tdiv 3) = (f0 : Int) := by rw [HW.out.1, HQ1.out]; exact hq2
              have HVV := Lib.hid hv
              have HFL := Lib.hid hfl
              have HX5 : fit = f0 → Hid (wrap64 ((wrap64 (wrap64 ((i : Int) + wrap64 ((wrap64 (4073 - (az : Int))).tdiv 3)) - 1)).tdiv (wrap64 ((wrap64 (4073 - (az : Int))).tdiv 3))) = (xn : Int)) := fun e => Lib.hid (by
                rw [hv, ← e, hx4, hx5, show (i : Int) + (fit : Int) - 1 = (t2 : Int) by omega, hx3, hx6])
              clear hv
              clear hyb hxb hfl sm hfb ht1 ht2 ht3 hy4 hx4 hx5
              have hq1 := HQ1.out
              have hcs := HCS.out
              rcases hcs with ⟨h1, hfe⟩ | ⟨h1, hfe⟩
              · have e1 : ((1024 : Int) < (f0 : Int)) = True := eq_true (by omega)
                have e2 : (1024 < f0) = True := eq_true h1
                have g3 : ((t2 : Int)).tdiv 1024 = (xn : Int) := by rw [hfe] at hx3; exact hx3
                have g4 : (binOp BinOp.add 3 (.int .i64 (i : Int)) (.int .i64 1024)).run Try.prog w8 = .ok (.int .i64 (t1 : Int)) w8 := by rw [hfe] at hadd1; exact hadd1
                have HFE := Lib.hid hfe
                have HH1 := Lib.hid h1
                clear h1 hx3 hx7 hfe hadd1 HX5
                go_wp2_with fail
                all_goals first
                  | (exfalso; have hv := HVV.out; have h1' := HH1.out; omega)
                  | (exfalso; have h8 := HP.out.2.2.1; rw [HFE.out] at h8; omega)
                  | (go_ret; exact ⟨ret_bool (by have h9 := HP.out.2.2.2; rw [beq_iff_eq]; omega), F7.out⟩)
              · have HX := HX5 hfe
                clear HX5
                subst hfe
                have e1 : ((1024 : Int) < (fit : Int)) = False := eq_false (by omega)
                have e2 : (1024 < fit) = False := eq_false h1
                have HH1 := Lib.hid h1
                clear h1
                go_wp2_with fail
                all_goals first
                  | (exfalso; have hv := HVV.out; have h1' := HH1.out; have hfl := HFL.out; omega)
                  | (exfalso; rename_i h; exact h HX.out.symm)
                  | (go_ret; exact ⟨ret_bool (by have h9 := HP.out.2.2.2; rw [beq_iff_eq]; omega), F7.out⟩)
end Go.Proofs.Ytadoflcomienoaa

