/- Bytes as a string; Same. -/
import Derived.Test.YtjjhnnnpikfjpaaNo
import Derived.Laws.IdiomStrings
namespace Go.Proofs.Ytjjhnnnpikfjpaa
open Go.RowKit

def strOf (l : List Nat) : ByteArray := ⟨(l.map UInt8.ofNat).toArray⟩
theorem conv_bs {w : World} {oa : Option Addr} {n c : Nat} {l : List Nat} (h : RB.Sl w oa n c l) (hb : Bytes l) : (convert 27 9 (.slice oa n c)).run Try.prog w = .ok (.string (strOf l)) w := by
  have hl := h.len
  rcases Nat.eq_zero_or_pos n with h0 | h0
  · subst h0
    obtain rfl : l = [] := List.length_eq_zero_iff.1 hl.symm
    rw [run_convert_bytes_string w 27 9 5 oa 0 c Try.underlying27 Try.underlying5 Try.underlying9]
    cases oa with
    | none => rfl
    | some a => exact run_bytesToString w a 0 c [] (run_loadCells_list (P := Try.prog) w a [] (fun j v hj => by simp at hj))
  · obtain ⟨b, o, rfl, hr⟩ := h.row h0
    have := run_convert_bytes_back (P := Try.prog) w 27 9 5 ⟨b, o, none⟩ c (l.map UInt8.ofNat) Try.underlying27 Try.underlying5 Try.underlying9 (fun j hj => by
      rw [List.length_map] at hj
      have h1 := hr.get j hj 0 (by decide)
      have hlt : l.getD j default < 256 := hb _ (getD_mem hj)
      simp only [RB, Nat.mul_one, Nat.add_zero, List.getElem?_cons_zero] at h1
      have hadd : (⟨b, o, none⟩ : Addr).add j = ⟨b, o + j, none⟩ := by unfold Addr.add; split <;> simp_all
      rw [hadd, h1]
      have h2 : l.getD j default = l[j] := by rw [List.getD_eq_getElem?_getD, List.getElem?_eq_getElem hj]; rfl
      rw [h2] at hlt
      rw [h2, List.getElem_map, UInt8.toNat_ofNat', Nat.mod_eq_of_lt hlt])
    rw [List.length_map, ← hl] at this
    exact this
set_option maxRecDepth 100000 in
set_option maxHeartbeats 1000000 in
theorem same_any (p q : Pk) (w : World) (hp : StsOk w p.ss) (hq : StsOk w q.ss) (h1 : p.tm = q.tm) (h2 : p.sq = q.sq) (h3 : p.dm = q.dm) (h4 : p.ss.l.map pj = q.ss.l.map pj) : Calls Try.prog 13 #[p.v, q.v] w fun e w' => e = .returned (.bool true) ∧ Below w.heap.size w w' := by
  obtain ⟨tm, sq, dm, s⟩ := p
  obtain ⟨tm', sq', dm', s'⟩ := q
  dsimp only at *
  subst h1 h2 h3
  unfold Pk.v
  dsimp only
  obtain ⟨oa, n, c, l⟩ := s
  obtain ⟨oa', n', c', l'⟩ := s'
  dsimp only at *
  have hll : l.length = l'.length := by have := congrArg List.length h4; simpa using this
  have hln : n = n' := by have h5 := hp.sl.len; have h6 := hq.sl.len; dsimp only at h5 h6; omega
  subst hln
  have hal1 := (Below.refl w.heap.size w).alloc (Nat.le_refl _) (.cells #[.int .i64 tm, .int .i64 sq, .int .i64 dm, .slice oa n c] 24)
  have hal := hal1.alloc hal1.size (.cells #[.int .i64 tm, .int .i64 sq, .int .i64 dm, .slice oa' n c'] 24)
  have hb1 : PkS w.heap.size #[.int .i64 tm, .int .i64 sq, .int .i64 dm, .slice oa n c] ((w.alloc (.cells #[.int .i64 tm, .int .i64 sq, .int .i64 dm, .slice oa n c] 24)).alloc (.cells #[.int .i64 tm, .int .i64 sq, .int .i64 dm, .slice oa' n c'] 24)) := hold (hnew _ _)
  have hb2 : PkS (w.heap.size + 1) #[.int .i64 tm, .int .i64 sq, .int .i64 dm, .slice oa' n c'] ((w.alloc (.cells #[.int .i64 tm, .int .i64 sq, .int .i64 dm, .slice oa n c] 24)).alloc (.cells #[.int .i64 tm, .int .i64 sq, .int .i64 dm, .slice oa' n c'] 24)) := hnewAt (Array.size_push _).symm
  have hlen : l.length = n := hp.sl.len.symm
  have HL := Lib.hid (And.intro hlen (And.intro hll h4))
  have F := Lib.hid (And.intro hal (And.intro hb1 (And.intro hb2 (And.intro (hp.keep hal) (hq.keep hal)))))
  clear hal1 hal hb1 hb2 hp hq hlen hll h4
  go_enter Try.func13, Try.ntmps13
  go_wp2_with fail
  generalize (w.alloc (.cells #[.int .i64 tm, .int .i64 sq, .int .i64 dm, .slice oa n c] 24)).alloc (.cells #[.int .i64 tm, .int .i64 sq, .int .i64 dm, .slice oa' n c'] 24) = W at *
  go_loopw [5] (fun iv wr => ∃ i : Nat, i ≤ n ∧ iv = .int .i64 i ∧ (Below w.heap.size w wr ∧ PkS w.heap.size #[.int .i64 tm, .int .i64 sq, .int .i64 dm, .slice oa n c] wr ∧ PkS (w.heap.size + 1) #[.int .i64 tm, .int .i64 sq, .int .i64 dm, .slice oa' n c'] wr ∧ StsOk wr ⟨oa, n, c, l⟩ ∧ StsOk wr ⟨oa', n, c', l'⟩)) (fun iv _ => n - (intOf iv).toNat)
  case atStart => exact ⟨0, Nat.zero_le _, rfl, F.out⟩
  case round =>
    obtain ⟨i, hi, rfl, hF⟩ := hrel
    obtain ⟨w2, rfl⟩ : ∃ w2 : World, w2 = wr := ⟨_, rfl⟩
    have G := Lib.hid hF
    clear hF F
    obtain ⟨e0, e1, e2, e3⟩ := G.out.2.1.cells
    obtain ⟨g0, g1, g2, g3⟩ := G.out.2.2.1.cells
    by_cases hlt : i < n
    · have hil : ((i : Int) < (n : Int)) = True := by simp; omega
      have hd := (Below.refl w2.heap.size w2).drew
      have hlenl := HL.out.1
      have hlenl' : l'.length = n := HL.out.2.1.symm.trans HL.out.1
      obtain ⟨bb, oo, rfl, hbb, hat⟩ := (G.out.2.2.2.1.keep hd).sl.at hlt
      obtain ⟨bb', oo', rfl, hbb', hat'⟩ := (G.out.2.2.2.2.keep hd).sl.at hlt
      have c0 := hat 0 (by decide)
      have c1 := hat 1 (by decide)
      have d0 := hat' 0 (by decide)
      have d1 := hat' 1 (by decide)
      simp only [RSt, Nat.add_zero, List.getElem?_cons_zero, List.getElem?_cons_succ] at c0 c1 d0 d1
      have hx := ((G.out.2.2.2.1.keep hd).all _ (getD_mem (i := i) (by simp only; omega))).2
      have hy := ((G.out.2.2.2.2.keep hd).all _ (getD_mem (i := i) (by simp only; omega))).2
      have hxy : pj (l.getD i default) = pj (l'.getD i default) := by
        have h1 := congrArg (fun m => m[i]?) HL.out.2.2
        simp only [List.getElem?_map] at h1
        rw [List.getElem?_eq_getElem (by omega), List.getElem?_eq_getElem (by omega)] at h1
        rw [List.getD_eq_getElem?_getD, List.getElem?_eq_getElem (by omega), List.getD_eq_getElem?_getD, List.getElem?_eq_getElem (by omega)]
        simpa using h1
      dsimp only at hx hy
      generalize l.getD i default = x at *
      generalize l'.getD i default = y at *
      obtain ⟨x1, x2⟩ := x
      obtain ⟨y1, y2⟩ := y
      simp only [pj, Prod.mk.injEq] at hxy
      dsimp only at *
      obtain ⟨rfl, hn2, hl2⟩ := hxy
      have k1 := conv_bs hx.sl hx.all
      have k2 := conv_bs hy.sl hy.all
      rw [← hl2] at k2
      have GG := Lib.hid (And.intro (Below.drew G.out.1) (And.intro (G.out.2.1.on hd) (And.intro (G.out.2.2.1.on hd) (And.intro (G.out.2.2.2.1.keep hd) (G.out.2.2.2.2.keep hd)))))
      clear hat hat' hx hy hn2 hl2 hlenl hlenl' hd
      have hw3 := wrapS hlt GG.out.2.2.2.1.sl.max
      go_wp2_with fail
      refine wp_region_heldP (fun w' => w' = w2.drew) (by kernel_rfl) ?_
      clear e0 e1 e2 e3 g0 g1 g2 g3
      obtain ⟨e0, e1, e2, e3⟩ := GG.out.2.1.cells
      obtain ⟨g0, g1, g2, g3⟩ := GG.out.2.2.1.cells
      generalize w2.drew = Wd at *
      refine held_reads [0, 1, 2, 3, 4, 5, 6, 7, 8, 9, 10, 11, 12, 13, 14, 15, 16, 17, 18, 19, 20, 21, 22, 23, 24, 25, 26, 27, 28, 29] (g := 0) rfl (by kernel_rfl) rfl (fun _ _ d _ _ h => by cases d <;> exact h) ?_
      simp only [pick, List.getD_cons_zero, List.getD_cons_succ]
      iterate 30 ((with_reducible refine wpRead_step (fun K hK => ?_)); go_simp; first | ((with_reducible refine hK _ ?_); clear hK K) | (apply Exists.intro; (with_reducible refine ⟨fun w' hw' => ?_, hK _ ?_⟩); (subst hw'; go_simp; first | exact rfl | exact ⟨rfl, rfl⟩); clear hK K))
      with_reducible refine wpRead_nil ?_
      refine wpAnyH_done (by kernel_rfl) ?_ _
      go_wp2_with fail
      exact ⟨⟨i + 1, hlt, by first | rw [hw3] | rw [Int.natCast_succ], GG.out⟩, by first | (rw [hw3]; exact mSucc hlt) | (rw [← Int.natCast_succ]; exact mSucc hlt)⟩
    · obtain rfl : n = i := by omega
      have hil : ((n : Int) < (n : Int)) = False := by simp
      go_wp2_with fail
      go_ret
      exact ⟨rfl, G.out.1⟩
end Go.Proofs.Ytjjhnnnpikfjpaa
