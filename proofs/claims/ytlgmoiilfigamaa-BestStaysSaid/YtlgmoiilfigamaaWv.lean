/- Routes that lives makes. -/
import Derived.Test.YtlgmoiilfigamaaWu
import Derived.Test.YtlgmoiilfigamaaSt
namespace Go.Proofs.Ytlgmoiilfigamaa
open Go.RowKit

theorem bcell_of {W w1 : World} {B : Nat} (hb : Below B W w1) : (∀ b o, b < B → w1.cell? ⟨b, o, none⟩ = W.cell? ⟨b, o, none⟩) ∧ (∀ b o, b < B → w1.frozen? ⟨b, o, none⟩ = W.frozen? ⟨b, o, none⟩) :=
  ⟨fun b o h => hb.cell (p := ⟨b, o, none⟩) h, fun b o h => hb.frozen (p := ⟨b, o, none⟩) h⟩
theorem said_any (n nx : Int) (w : World) : Calls Try.prog 28 #[.int .i64 n, .int .u32 nx] w fun e w' => e = .returned (.agg #[.int .i64 0, .slice (some ⟨w.heap.size + 2, 0, none⟩) 1 1, .int .u32 nx, .int .i64 (-1), .int .i64 (-1), .slice none 0 0]) ∧ PathAt w' w'.heap.size (some ⟨w.heap.size + 2, 0, none⟩) 1 [⟨false, some ⟨w.heap.size + 1, 0, none⟩, 1, 1, [n]⟩] ∧ Below w.heap.size w w' := by
  go_enter Try.func28, Try.ntmps28
  go_wp2_with fail
  refine bodyPost_ret (v := .agg #[.int .i64 0, .slice (some ⟨w.heap.size + 2, 0, none⟩) 1 1, .int .u32 nx, .int .i64 (-1), .int .i64 (-1), .slice none 0 0]) (by simp [results, Try.results28, go_sem]) rfl ⟨rfl, ?_, ?_⟩
  · refine ⟨rfl, by unfold maxLen; omega, fun _ => ⟨w.heap.size + 2, 0, rfl, by simp, fun i hi => ?_⟩, fun s hs => ?_⟩
    · obtain rfl : i = 0 := by omega
      exact ⟨by go_simp; try rfl, by go_simp; try rfl⟩
    · simp at hs
      subst hs
      exact ⟨rfl, by show 1 ≤ maxLen; unfold maxLen; omega, fun _ => ⟨w.heap.size + 1, 0, rfl, by simp; try omega, fun i hi => by
        have hi' : i < 1 := hi
        obtain rfl : i = 0 := by omega
        go_simp; try rfl⟩⟩
  · exact (((Below.refl _ _).alloc (Nat.le_refl _) _).alloc (by simp) _).alloc (by simp; omega) _

/-- what route gives -/
structure Made (w : World) (x : Rt) (r p m n : Int) : Prop where
  ok : RtOk w w.heap.size x
  small : Small x
  look : lookOf x = ⟨prefOf x, 1, 0, n, max m 0, r, 0⟩
  pf : x.pf = p
  hr : x.r = r
theorem Made.below {w w' : World} {x : Rt} {r p m n : Int} (h : Made w x r p m n) (hb : Below w.heap.size w w') : Made w' x r p m n :=
  ⟨by
    have := h.ok.below hb
    exact ⟨⟨this.path.1, this.path.2.1, fun h0 => let ⟨b, o, e, hl, hc⟩ := this.path.2.2.1 h0; ⟨b, o, e, Nat.lt_of_lt_of_le hl hb.size, hc⟩, fun s hs => ⟨(this.path.2.2.2 s hs).1, (this.path.2.2.2 s hs).2.1, fun h0 => let ⟨b, o, e, hl, hc⟩ := (this.path.2.2.2 s hs).2.2 h0; ⟨b, o, e, Nat.lt_of_lt_of_le hl hb.size, hc⟩⟩⟩,
      ⟨this.comms.1, this.comms.2.1, fun h0 => let ⟨b, o, e, hl, hc⟩ := this.comms.2.2 h0; ⟨b, o, e, Nat.lt_of_lt_of_le hl hb.size, hc⟩⟩, this.pf1, this.fr⟩, h.small, h.look, h.pf, h.hr⟩
set_option maxHeartbeats 2000000 in
theorem route_any (r p m n : Int) (w : World) (hp : p ≤ 1000) (hn : 0 ≤ n) (hn2 : n ≤ 1000) : Calls Try.prog 19 #[.int .i64 r, .int .i64 p, .int .i64 m, .int .i64 n] w fun e w' => ∃ x : Rt, e = .returned x.val ∧ Made w' x r p m n ∧ Below w.heap.size w w' := by
  have HS := Lib.hid (fun w' => said_any n 1 w')
  go_enter Try.func19, Try.ntmps19
  go_wp2_with fail
  refine (HS.out _).mono ?_
  rintro e w1 ⟨rfl, hp1, hb⟩
  simp only [World.size_alloc] at hb hp1
  have hblk := (hb.block w.heap.size (by omega)).trans (hnew w _)
  have hz := hb.size
  simp only [World.size_alloc] at hz
  have hw1 : Below w.heap.size w w1 := ((Below.refl _ _).alloc (Nat.le_refl _) _).trans (hb.mono (by omega))
  have HP := Lib.hid (And.intro hp1 (And.intro hw1 (And.intro hblk hz)))
  clear hp1 hb hblk hz hw1
  go_wp2_with (with_reducible refine halt_store 40 rfl ?_)
  refine Halted.go ?_
  refine store_whole rfl 40 _ _ rfl w.heap.size #[.int .i64 r, .int .u32 0, .int .i64 0, .int .i64 0, .int .i64 0, .slice (some ⟨w.heap.size + 1 + 2, 0, none⟩) 1 1, .int .u32 1, .int .i64 m, .int .i64 p, .slice none 0 0] rfl rfl (hold HP.out.2.2.1) rfl (by kernel_rfl) (by simp [Value.oneCell']) ?_
  intro w2 hb2 hset
  have HZ := Lib.hid (And.intro hb2 hset)
  clear hb2 hset
  go_wp2_with fail
  refine ret_cell rfl rfl rfl HZ.out.1 Try.underlying40 rfl (by kernel_rfl) ?_
  obtain ⟨hb2, hset⟩ := HZ.out
  obtain ⟨hp1, hw1, hblk, hz⟩ := HP.out
  refine ⟨⟨r, 0, 0, 0, 0, some ⟨w.heap.size + 1 + 2, 0, none⟩, 1, 1, 1, m, p, none, 0, 0, [⟨false, some ⟨w.heap.size + 1 + 1, 0, none⟩, 1, 1, [n]⟩], []⟩, rfl, ?_, ?_⟩
  · have hcell : ∀ b o v, b ≠ w.heap.size → w1.cell? ⟨b, o, none⟩ = some v → w2.cell? ⟨b, o, none⟩ = some v := fun b o v hne h => by
      rw [← cell_hold h]
      exact cell_same (hset.other hne)
    have hs2 : w1.heap.size < w2.heap.size := by rw [hset.size]; simp
    obtain ⟨-, -, h3, h4⟩ := hp1
    refine ⟨⟨⟨rfl, by show 1 ≤ maxLen; unfold maxLen; omega, fun _ => ?_, fun s hs => ?_⟩, ⟨rfl, by show 0 ≤ maxLen; omega, fun h => absurd h (by show ¬ 0 < 0; omega)⟩, by show p ≤ _; omega, by show _ ≤ n ∧ n ≤ _; omega⟩, ?_, ?_, rfl, rfl⟩
    · obtain ⟨b, o, e, hl, hc⟩ := h3 (by omega)
      cases e
      exact ⟨_, _, rfl, by omega, fun i hi => ⟨hcell _ _ _ (by omega) (hc i hi).1, hcell _ _ _ (by omega) (hc i hi).2⟩⟩
    · have h5 := h4 s hs
      simp at hs
      subst hs
      obtain ⟨h6, h7, h8⟩ := h5
      refine ⟨h6, h7, fun h0 => ?_⟩
      obtain ⟨b, o, e, hl, hc⟩ := h8 h0
      cases e
      exact ⟨_, _, rfl, by omega, fun i hi => hcell _ _ _ (by omega) (hc i hi)⟩
    · exact ⟨by show 1 ≤ 20; omega, by show 0 ≤ 100; omega, fun s hs => by simp at hs; subst hs; show 1 ≤ 200; omega⟩
    · simp [lookOf, prefOf, plen, slen, pfirst, medOf]
  · exact hw1.trans (((Below.refl _ _).alloc (Nat.le_trans (by omega) hz) _).trans (hset.below (Nat.le_refl _)))
end Go.Proofs.Ytlgmoiilfigamaa
