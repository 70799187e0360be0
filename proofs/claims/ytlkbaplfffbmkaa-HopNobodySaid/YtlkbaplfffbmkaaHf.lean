/- Find. -/
import Derived.Test.YtlkbaplfffbmkaaHe
namespace Go.Proofs.Ytlkbaplfffbmkaa
open Go.RowKit

def HD.find (D : HD) (ρ a : Nat) : Option If := match lng (D.M ρ) a 33 with
  | none => none
  | some j => D.get ((D.M ρ (pcut a j) j).getD 0)
set_option maxRecDepth 100000 in
set_option maxHeartbeats 1000000 in
theorem find_any {w : World} {h : Nat} {D : HD} (H : HopsAt w h D) {ρ a : Nat} (hρ : ρ < 16) (ha : a < 4294967296) (r : If) (is : Bool) (hr : D.find ρ a = if is then some r else none) (hz : is = false → r = ⟨0, 0, 0, 0, 0⟩) : Calls Try.prog 14 #[.pointer (some ⟨h, 0, none⟩), .int .i64 ρ, .int .u32 a] w fun e w' => e = .returned (.tuple #[r.v, .bool is]) ∧ Below w.heap.size w w' := by
  have hal := (Below.refl w.heap.size w).alloc (Nat.le_refl _) (.cells #[.int .i64 0, .int .i64 0, .int .u32 0, .int .i64 0, .int .i64 0] 34)
  have H1 := H.keep hal
  have hzero : (w.alloc (.cells #[.int .i64 0, .int .i64 0, .int .u32 0, .int .i64 0, .int .i64 0] 34)).heap[w.heap.size]? = some (.cells #[.int .i64 0, .int .i64 0, .int .u32 0, .int .i64 0, .int .i64 0] 34 (0, 0)) := hnew _ _
  obtain ⟨⟨bm, clk, es, b, h1, h2, h3, h4⟩, hw⟩ := H1
  have c1 : (w.alloc (.cells #[.int .i64 0, .int .i64 0, .int .u32 0, .int .i64 0, .int .i64 0] 34)).cell? ⟨h, 1 + ρ, none⟩ = some (.pointer (some ⟨b ρ, 0, none⟩)) := cell_of h1 (hop_nth bm b hρ)
  obtain ⟨N, n, hT⟩ := h4 ρ hρ
  have hwi := fun W => hwithin_ok (n := (ρ : Int)) (a := 0) (b := 15) ⟨by omega, by omega⟩ W
  have HL := Lib.hid (longI_any hT a ha)
  have HW := Lib.hid hwi
  have HF := Lib.hid (And.intro hal (And.intro (H.keep hal) hzero))
  have HR := Lib.hid (And.intro hr (And.intro hz hw))
  have hlt : ((ρ : Int) < 16) = True := by simp; omega
  have h0 : ((0 : Int) ≤ (ρ : Int)) = True := by simp
  clear h1 h2 h3 h4 hw hT hwi hr hz H hal hzero
  go_enter Try.func14, Try.ntmps14
  go_wp2_with fail
  refine (HW.out _).mono ?_
  rintro e W ⟨rfl, hW⟩
  generalize w.alloc (.cells #[.int .i64 0, .int .i64 0, .int .u32 0, .int .i64 0, .int .i64 0] 34) = W1 at *
  subst W
  go_wp2_with fail
  rcases hG : lng (D.M ρ) a 33 with _ | j
  · have hl := HL.out
    rw [hG] at hl
    dsimp only at hl
    have HC := Lib.hid hl
    have hf : D.find ρ a = none := by unfold HD.find; rw [hG]
    obtain ⟨hr, hz, -⟩ := HR.out
    obtain rfl : is = false := by cases is with
      | false => rfl
      | true => rw [hf] at hr; cases hr
    have hr0 := hz rfl
    subst hr0
    clear hl hf hr hz HL HR hG c1
    refine (HC.out).mono ?_
    rintro e W2 ⟨rfl, hb2⟩
    have F2 := Lib.hid (And.intro (bcall HF.out.1 (Nat.le_refl _) hb2) ((hb2.block _ (lt_of_blk HF.out.2.2)).trans HF.out.2.2))
    clear hb2
    unfold pfx
    go_wp2_with (with_reducible refine halt_store 34 rfl ?_)
    refine Halted.go ?_
    have hal3 := (Below.refl W2.heap.size W2).alloc (Nat.le_refl _) (.cells #[.int .u32 0, .int .i64 0] 32)
    refine store_whole rfl 34 _ _ rfl w.heap.size #[.int .i64 0, .int .i64 0, .int .u32 0, .int .i64 0, .int .i64 0] rfl rfl (hold F2.out.2) rfl (by kernel_rfl) (by simp [Value.oneCell']) ?_
    intro Wz hwz hsz
    have HZ := Lib.hid (And.intro hwz (Below.trans (bcall F2.out.1 (Nat.le_refl _) hal3) (hsz.below (Nat.le_refl _))))
    clear hwz hsz hal3
    go_wp2_with fail
    refine ret_cell2 rfl rfl rfl HZ.out.1 Try.underlying34 rfl (by kernel_rfl) ?_
    exact ⟨rfl, HZ.out.2⟩
  · have hl := HL.out
    rw [hG] at hl
    dsimp only at hl
    obtain ⟨id, hid⟩ : ∃ id, (D.M ρ (pcut a j) j).getD 0 = id := ⟨_, rfl⟩
    rw [hid] at hl
    have HC := Lib.hid hl
    have hok : IN.ok id := by
      cases hm : D.M ρ (pcut a j) j with
      | none => rw [hm] at hid; subst hid; exact wfI (by decide)
      | some v => rw [hm] at hid; subst hid; exact HR.out.2.2 ρ hρ _ _ _ hm
    have hf : D.find ρ a = D.get id := by unfold HD.find; rw [hG, ← hid]
    have hg := HR.out.1
    rw [hf] at hg
    have hz := HR.out.2.1
    refine (HC.out).mono ?_
    rintro e W2 ⟨rfl, hb2⟩
    have hal3 := (Below.refl W2.heap.size W2).alloc (Nat.le_refl _) (.cells #[.int .u32 (pcut a j : Nat), .int .i64 (j : Int)] 32)
    have HI := Lib.hid (iface_any ((HF.out.2.1.keep hb2).keep hal3) hok r is hg hz)
    have F2 := Lib.hid (And.intro (bcall (bcall HF.out.1 (Nat.le_refl _) hb2) (Nat.le_refl _) hal3) (hold (hb2.block _ (lt_of_blk HF.out.2.2) |>.trans HF.out.2.2) : (W2.alloc (.cells #[.int .u32 (pcut a j : Nat), .int .i64 (j : Int)] 32)).heap[w.heap.size]? = some (.cells #[.int .i64 0, .int .i64 0, .int .u32 0, .int .i64 0, .int .i64 0] 34 (0, 0))))
    clear hb2 hal3 hl hid hok hf hg hz HL HR hG c1 HC HF
    unfold pfx
    unfold If.v at HI
    generalize pcut a j = q at *
    go_wp2_with fail
    refine (HI.out).mono ?_
    rintro e W3 ⟨rfl, hb3⟩
    generalize W2.alloc (.cells #[.int .u32 (q : Nat), .int .i64 (j : Int)] 32) = W2a at *
    have F3 := Lib.hid (And.intro (bcall F2.out.1 (Nat.le_refl _) hb3) ((hb3.block _ (lt_of_blk F2.out.2)).trans F2.out.2))
    clear hb3
    go_wp2_with (with_reducible refine halt_store 34 rfl ?_)
    refine Halted.go ?_
    refine store_whole rfl 34 _ _ rfl w.heap.size #[.int .i64 r.id, .int .i64 r.r, .int .u32 (r.ad : Int), .int .i64 r.ln, .int .i64 r.cp] rfl rfl F3.out.2 rfl (by kernel_rfl) (by simp [Value.oneCell']) ?_
    intro Wz hwz hsz
    have HZ := Lib.hid (And.intro hwz (Below.trans F3.out.1 (hsz.below (Nat.le_refl _))))
    clear hwz hsz
    go_wp2_with fail
    refine ret_cell2 rfl rfl rfl HZ.out.1 Try.underlying34 rfl (by kernel_rfl) ?_
    exact ⟨rfl, HZ.out.2⟩
end Go.Proofs.Ytlkbaplfffbmkaa
