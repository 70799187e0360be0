/- slices.DeleteFunc over candidates: the walk. -/
import Derived.Test.YtlgmoiilfigamaaWd
namespace Go.Proofs.Ytlgmoiilfigamaa
open Go.RowKit

theorem idxOf_take (p : Cd → Bool) (L : List Cd) (h : idxOf p L < L.length) : (L.take (idxOf p L + 1)).filter (fun c => !p c) = L.take (idxOf p L) := by
  induction L with
  | nil => simp at h
  | cons c r ih =>
    unfold idxOf at h ⊢
    by_cases hp : p c = true
    · simp [hp]
    · simp only [hp, Bool.false_eq_true, if_false, List.length_cons] at h ⊢
      rw [List.take_succ_cons, List.take_succ_cons, List.filter_cons]
      simp [hp, ih (by omega)]
theorem idxOf_all (p : Cd → Bool) (L : List Cd) (h : idxOf p L = L.length) : L.filter (fun c => !p c) = L := by
  induction L with
  | nil => rfl
  | cons c r ih =>
    unfold idxOf at h
    by_cases hp : p c = true
    · rw [if_pos hp] at h; simp at h
    · rw [if_neg hp] at h
      rw [List.filter_cons]
      simp [hp, ih (by simpa using h)]
theorem filter_step (p : Cd → Bool) (L : List Cd) (j : Nat) (hj : j < L.length) : (L.take (j + 1)).filter (fun c => !p c) = (L.take j).filter (fun c => !p c) ++ (if p (L.getD j default) then [] else [L.getD j default]) := by
  rw [List.take_succ_eq_append_getElem hj, List.filter_append]
  have : L.getD j default = L[j] := by simp [List.getD_eq_getElem?_getD, hj]
  rw [this]
  by_cases hp : p L[j] = true <;> simp [hp]

/-- where the deleting stands -/
structure DSt (p : Cd → Bool) (L : List Cd) (n i j : Nat) (M : List Cd) : Prop where
  len : M.length = n
  ij : i < j
  jn : j ≤ n
  head : M.take i = (L.take j).filter (fun c => !p c)
  tail : ∀ q, j ≤ q → q < n → M.getD q default = L.getD q default
theorem DSt.skip {p : Cd → Bool} {L : List Cd} {n i j : Nat} {M : List Cd} (h : DSt p L n i j M) (hn : n = L.length) (hj : j < n) (hp : p (L.getD j default) = true) : DSt p L n i (j + 1) M :=
  ⟨h.len, by have := h.ij; omega, by omega, by rw [filter_step p L j (by omega), hp, h.head]; simp, fun q hq hqn => h.tail q (by omega) hqn⟩
theorem DSt.take {p : Cd → Bool} {L : List Cd} {n i j : Nat} {M : List Cd} (h : DSt p L n i j M) (hn : n = L.length) (hj : j < n) (hp : p (L.getD j default) = false) : DSt p L n (i + 1) (j + 1) (M.set i (L.getD j default)) := by
  have hij := h.ij
  have hl := h.len
  refine ⟨by simpa using h.len, by omega, by omega, ?_, fun q hq hqn => ?_⟩
  · rw [filter_step p L j (by omega), hp, ← h.head]
    rw [List.take_succ_eq_append_getElem (by simp; omega), List.take_set_of_le (Nat.le_refl i)]
    simp
  · rw [← h.tail q (by omega) hqn]
    simp only [List.getD_eq_getElem?_getD, List.getElem?_set]
    rw [if_neg (by omega)]

set_option maxHeartbeats 2000000 in
theorem deletea (bf bb : Nat) (p : Cd → Bool) (b cap : Nat) (L : List Cd) (cur : Array Value) (w : World) (hr : RowC w b cap L cur) (hd : Dela bf bb p L w [b]) :
    Calls Try.prog 29 #[.slice (some ⟨b, 0, none⟩) L.length cap, .func (.func 30) #[] #[.pointer (some ⟨bf, 0, none⟩), .pointer (some ⟨bb, 0, none⟩)]] w fun e w' => e = .returned (.slice (some ⟨b, 0, none⟩) (L.filter (fun c => !p c)).length cap) ∧ (∃ cur', RowC w' b cap (L.filter (fun c => !p c)) cur') ∧ But w w' [b] := by
  have hidx := indexa bf bb p b cap L cur w [b] hr hd
  obtain ⟨n, hn⟩ : ∃ n, n = L.length := ⟨_, rfl⟩
  rw [← hn] at hidx ⊢
  have hm : n ≤ 9223372036854775807 := by have h1 := hr.le; have h2 := hr.max; unfold maxLen at h2; omega
  have hcap : cap ≤ 9223372036854775807 := by have h2 := hr.max; unfold maxLen at h2; omega
  have hncap : n ≤ cap := by have h1 := hr.le; omega
  have hle := idxOf_le p L
  by_cases hall : idxOf p L = L.length
  · unfold idxI at hidx
    rw [if_pos hall] at hidx
    have HD := Lib.hid (And.intro hr (And.intro hn hall))
    have HI := Lib.hid hidx
    clear hr hd hn hall hidx hle
    go_enter Try.func29, Try.ntmps29
    go_wp2_with fail
    refine (HI.out).mono ?_
    rintro e w1 ⟨rfl, hb⟩
    go_wp2_with fail
    go_ret
    obtain ⟨hr, hn, hall⟩ := HD.out
    have hf := idxOf_all p L hall
    rw [hf, ← hn]
    exact ⟨rfl, ⟨cur, hr.keep (hb.block b (lt_of_blk hr.blk))⟩, But.of_below hb [b]⟩
  · unfold idxI at hidx
    rw [if_neg hall] at hidx
    obtain ⟨i0, hi0⟩ : ∃ i0, i0 = idxOf p L := ⟨_, rfl⟩
    rw [← hi0] at hidx
    have hin : i0 < n := by omega
    have hne : ((i0 : Int) == -1) = false := by simp; try omega
    have HD := Lib.hid (And.intro hr (And.intro hd (And.intro hn (And.intro hi0 hall))))
    have HI := Lib.hid hidx
    clear hr hd hn hall hidx hle hi0
    go_enter Try.func29, Try.ntmps29
    go_wp2_with fail
    refine (HI.out).mono ?_
    rintro e w1 ⟨rfl, hb⟩
    have HB := Lib.hid hb
    clear hb
    go_wp2_with fail
    go_loopw [5, 6] (fun iv jv wr => ∃ (i j : Nat) (M : List Cd) (cur' : Array Value), iv = .int .i64 i ∧ jv = .int .i64 j ∧ DSt p L n i j M ∧ RowC wr b cap M cur' ∧ But w wr [b]) (fun _ jv _ => n - (intOf jv).toNat)
    case atStart =>
      obtain ⟨hr, hd, hn, hi0, hall⟩ := HD.out
      have hb := HB.out
      refine ⟨i0, i0 + 1, L, cur, rfl, rfl, ⟨hn.symm, by omega, by omega, ?_, fun _ _ _ => rfl⟩, hr.keep (hb.block b (lt_of_blk hr.blk)), But.of_below hb [b]⟩
      rw [hi0, idxOf_take p L (by omega)]
    case round =>
      obtain ⟨i, j, M, cur', rfl, rfl, hS, hrM, hBut⟩ := hrel
      have hij := hS.ij
      have hjn := hS.jn
      by_cases hlt : j < n
      · obtain ⟨hr, hd, hn, hi0, hall⟩ := HD.out
        obtain ⟨c0, c1, c2, c3, c4, c5, c6, c7, c8, c9, c10⟩ := hrM.at (i := j) (by rw [hS.len]; exact hlt)
        rw [hS.tail j (Nat.le_refl _) hlt] at c0 c1 c2 c3 c4 c5 c6 c7 c8 c9 c10
        have hmem : L.getD j default ∈ L := by rw [List.getD_eq_getElem?_getD, List.getElem?_eq_getElem (by omega : j < L.length)]; exact List.getElem_mem _
        have hcall := fun (o : Obj) => hd (wr.alloc o) (hBut.alloc o) _ hmem
        have HS := Lib.hid (And.intro hS (And.intro hrM (And.intro hBut hn)))
        generalize hq : L.getD j default = q at *
        obtain ⟨x, m⟩ := q
        dsimp only at c0 c1 c2 c3 c4 c5 c6 c7 c8 c9 c10 hcall
        have HQ := Lib.hid hq
        clear hq hd hr hmem hn hi0 hall hS hrM hBut
        unfold Rt.cand at hcall
        have lbw : b < wr.heap.size := lt_of_blk HS.out.2.1.blk
        cases hp : p (x, m) with
        | true =>
          rw [hp] at hcall
          have HC := Lib.hid hcall
          have HPT := Lib.hid hp
          clear hcall hp
          go_wp2_with fail
          refine (HC.out _).mono ?_
          rintro e w2 ⟨rfl, hb2⟩
          go_wp2_with fail
          obtain ⟨hS, hrM, hBut, hn⟩ := HS.out
          go_roundw
          case rel => exact ⟨i, j + 1, M, cur', rfl, by go_num, hS.skip hn hlt (by rw [HQ.out]; exact HPT.out), hrM.keep ((hb2.block b (by simp; omega)).trans (Below.heap_alloc _ _ _ lbw)), (hBut.alloc _).trans (But.of_below hb2 [b])⟩
          case measure => simp [intOf]; omega
        | false =>
          rw [hp] at hcall
          have HC := Lib.hid hcall
          have HPT := Lib.hid hp
          clear hcall hp
          go_wp2_with fail
          refine (HC.out _).mono ?_
          rintro e w2 ⟨rfl, hb2⟩
          have hv : ∀ o, w2.cell? ⟨wr.heap.size, o, none⟩ = _ := fun o => hb2.cell (p := ⟨wr.heap.size, o, none⟩) (by simp)
          obtain ⟨hS, hrM, hBut, hn⟩ := HS.out
          have hrM2 := hrM.keep ((hb2.block b (by simp; omega)).trans (Below.heap_alloc _ _ _ lbw))
          have hfr : ∀ o, w2.frozen? ⟨b, o, none⟩ = false := fun o => free_of hrM2.blk
          obtain ⟨d0, d1, d2, d3, d4, d5, d6, d7, d8, d9, d10⟩ := hrM2.at (i := i) (by rw [hS.len]; omega)
          have HR2 := Lib.hid hrM2
          have HB2 := Lib.hid ((hBut.alloc _).trans (But.of_below hb2 [b]))
          clear hS hrM hBut hn hb2 hrM2 c0 c1 c2 c3 c4 c5 c6 c7 c8 c9 c10
          go_wp2_with fail
          have hsz := HR2.out.size
          obtain ⟨hS, hrM, hBut, hn⟩ := HS.out
          have hlm := hS.len
          have hrl := HR2.out.le
          have P0 := Part.start (o := i * 11) (vs := cdCells (x, m)) HR2.out.blk
          have P1 := P0.step (v := .int .i64 x.r) rfl (by omega) rfl
          have P2 := P1.step (v := .int .u32 x.a) rfl (by omega) rfl
          have P3 := P2.step (v := .int .i64 x.l) rfl (by omega) rfl
          have P4 := P3.step (v := .int .i64 x.i) rfl (by omega) rfl
          have P5 := P4.step (v := .int .i64 x.o) rfl (by omega) rfl
          have P6 := P5.step (v := .slice x.pa x.pn x.pc) rfl (by omega) rfl
          have P7 := P6.step (v := .int .u32 x.nx) rfl (by omega) rfl
          have P8 := P7.step (v := .int .i64 x.md) rfl (by omega) rfl
          have P9 := P8.step (v := .int .i64 x.pf) rfl (by omega) rfl
          have P10 := P9.step (v := .slice x.ca x.cn x.cc) rfl (by omega) rfl
          have P11 := P10.step (v := .int .i64 m) rfl (by omega) rfl
          obtain ⟨cur3, hrow⟩ := HR2.out.store (i := i) (by omega) P11
          have hT := hS.take hn hlt (by rw [HQ.out]; exact HPT.out)
          rw [HQ.out] at hT
          refine ⟨⟨i + 1, j + 1, M.set i (x, m), cur3, by go_num, by go_num, hT, hrow, ?_⟩, by simp [intOf]; omega⟩
          iterate 11 refine But.setCell ?_ (.inr (by simp)) _
          exact HB2.out
      · have hj : j = n := by omega
        subst hj
        have HS := Lib.hid (And.intro hS (And.intro hrM hBut))
        obtain ⟨w2, cur2, hclr, h2, h3, h4, h5⟩ := run_clear46 wr b i (j - i) (cap - i) cap 0 cur' hrM.blk hrM.size (by omega)
        have H2 := Lib.hid (And.intro h2 (And.intro h3 (And.intro h4 h5)))
        clear h2 h3 h4 h5 hS hrM hBut
        have hf : ¬ ((j : Int) < j) := by omega
        go_wp2_with fail
        go_ret
        obtain ⟨hS, hrM, hBut⟩ := HS.out
        obtain ⟨hr, hd, hn, hi0, hall⟩ := HD.out
        obtain ⟨h2, h3, h4, h5⟩ := H2.out
        have hhead := hS.head
        rw [hn, List.take_length] at hhead
        have hlen : (L.filter (fun c => !p c)).length = i := by rw [← hhead, List.length_take, hS.len]; omega
        refine ⟨by rw [hlen]; rfl, ⟨cur2, ?_⟩, hBut.thenSet h5 (.inr (by simp))⟩
        rw [← hhead]
        exact hrM.head (by rw [hS.len]; omega) h2 h3 h4

set_option maxHeartbeats 2000000 in
theorem deletem (bf : Nat) (p : Cd → Bool) (b cap : Nat) (L : List Cd) (cur : Array Value) (w : World) (hr : RowC w b cap L cur) (hd : Delm bf p L w [b]) :
    Calls Try.prog 29 #[.slice (some ⟨b, 0, none⟩) L.length cap, .func (.func 41) #[] #[.pointer (some ⟨bf, 0, none⟩)]] w fun e w' => e = .returned (.slice (some ⟨b, 0, none⟩) (L.filter (fun c => !p c)).length cap) ∧ (∃ cur', RowC w' b cap (L.filter (fun c => !p c)) cur') ∧ But w w' [b] := by
  have hidx := indexm bf p b cap L cur w [b] hr hd
  obtain ⟨n, hn⟩ : ∃ n, n = L.length := ⟨_, rfl⟩
  rw [← hn] at hidx ⊢
  have hm : n ≤ 9223372036854775807 := by have h1 := hr.le; have h2 := hr.max; unfold maxLen at h2; omega
  have hcap : cap ≤ 9223372036854775807 := by have h2 := hr.max; unfold maxLen at h2; omega
  have hncap : n ≤ cap := by have h1 := hr.le; omega
  have hle := idxOf_le p L
  by_cases hall : idxOf p L = L.length
  · unfold idxI at hidx
    rw [if_pos hall] at hidx
    have HD := Lib.hid (And.intro hr (And.intro hn hall))
    have HI := Lib.hid hidx
    clear hr hd hn hall hidx hle
    go_enter Try.func29, Try.ntmps29
    go_wp2_with fail
    refine (HI.out).mono ?_
    rintro e w1 ⟨rfl, hb⟩
    go_wp2_with fail
    go_ret
    obtain ⟨hr, hn, hall⟩ := HD.out
    have hf := idxOf_all p L hall
    rw [hf, ← hn]
    exact ⟨rfl, ⟨cur, hr.keep (hb.block b (lt_of_blk hr.blk))⟩, But.of_below hb [b]⟩
  · unfold idxI at hidx
    rw [if_neg hall] at hidx
    obtain ⟨i0, hi0⟩ : ∃ i0, i0 = idxOf p L := ⟨_, rfl⟩
    rw [← hi0] at hidx
    have hin : i0 < n := by omega
    have hne : ((i0 : Int) == -1) = false := by simp; try omega
    have HD := Lib.hid (And.intro hr (And.intro hd (And.intro hn (And.intro hi0 hall))))
    have HI := Lib.hid hidx
    clear hr hd hn hall hidx hle hi0
    go_enter Try.func29, Try.ntmps29
    go_wp2_with fail
    refine (HI.out).mono ?_
    rintro e w1 ⟨rfl, hb⟩
    have HB := Lib.hid hb
    clear hb
    go_wp2_with fail
    go_loopw [5, 6] (fun iv jv wr => ∃ (i j : Nat) (M : List Cd) (cur' : Array Value), iv = .int .i64 i ∧ jv = .int .i64 j ∧ DSt p L n i j M ∧ RowC wr b cap M cur' ∧ But w wr [b]) (fun _ jv _ => n - (intOf jv).toNat)
    case atStart =>
      obtain ⟨hr, hd, hn, hi0, hall⟩ := HD.out
      have hb := HB.out
      refine ⟨i0, i0 + 1, L, cur, rfl, rfl, ⟨hn.symm, by omega, by omega, ?_, fun _ _ _ => rfl⟩, hr.keep (hb.block b (lt_of_blk hr.blk)), But.of_below hb [b]⟩
      rw [hi0, idxOf_take p L (by omega)]
    case round =>
      obtain ⟨i, j, M, cur', rfl, rfl, hS, hrM, hBut⟩ := hrel
      have hij := hS.ij
      have hjn := hS.jn
      by_cases hlt : j < n
      · obtain ⟨hr, hd, hn, hi0, hall⟩ := HD.out
        obtain ⟨c0, c1, c2, c3, c4, c5, c6, c7, c8, c9, c10⟩ := hrM.at (i := j) (by rw [hS.len]; exact hlt)
        rw [hS.tail j (Nat.le_refl _) hlt] at c0 c1 c2 c3 c4 c5 c6 c7 c8 c9 c10
        have hmem : L.getD j default ∈ L := by rw [List.getD_eq_getElem?_getD, List.getElem?_eq_getElem (by omega : j < L.length)]; exact List.getElem_mem _
        have hcall := fun (o : Obj) => hd (wr.alloc o) (hBut.alloc o) _ hmem
        have HS := Lib.hid (And.intro hS (And.intro hrM (And.intro hBut hn)))
        generalize hq : L.getD j default = q at *
        obtain ⟨x, m⟩ := q
        dsimp only at c0 c1 c2 c3 c4 c5 c6 c7 c8 c9 c10 hcall
        have HQ := Lib.hid hq
        clear hq hd hr hmem hn hi0 hall hS hrM hBut
        unfold Rt.cand at hcall
        have lbw : b < wr.heap.size := lt_of_blk HS.out.2.1.blk
        cases hp : p (x, m) with
        | true =>
          rw [hp] at hcall
          have HC := Lib.hid hcall
          have HPT := Lib.hid hp
          clear hcall hp
          go_wp2_with fail
          refine (HC.out _).mono ?_
          rintro e w2 ⟨rfl, hb2⟩
          go_wp2_with fail
          obtain ⟨hS, hrM, hBut, hn⟩ := HS.out
          go_roundw
          case rel => exact ⟨i, j + 1, M, cur', rfl, by go_num, hS.skip hn hlt (by rw [HQ.out]; exact HPT.out), hrM.keep ((hb2.block b (by simp; omega)).trans (Below.heap_alloc _ _ _ lbw)), (hBut.alloc _).trans (But.of_below hb2 [b])⟩
          case measure => simp [intOf]; omega
        | false =>
          rw [hp] at hcall
          have HC := Lib.hid hcall
          have HPT := Lib.hid hp
          clear hcall hp
          go_wp2_with fail
          refine (HC.out _).mono ?_
          rintro e w2 ⟨rfl, hb2⟩
          have hv : ∀ o, w2.cell? ⟨wr.heap.size, o, none⟩ = _ := fun o => hb2.cell (p := ⟨wr.heap.size, o, none⟩) (by simp)
          obtain ⟨hS, hrM, hBut, hn⟩ := HS.out
          have hrM2 := hrM.keep ((hb2.block b (by simp; omega)).trans (Below.heap_alloc _ _ _ lbw))
          have hfr : ∀ o, w2.frozen? ⟨b, o, none⟩ = false := fun o => free_of hrM2.blk
          obtain ⟨d0, d1, d2, d3, d4, d5, d6, d7, d8, d9, d10⟩ := hrM2.at (i := i) (by rw [hS.len]; omega)
          have HR2 := Lib.hid hrM2
          have HB2 := Lib.hid ((hBut.alloc _).trans (But.of_below hb2 [b]))
          clear hS hrM hBut hn hb2 hrM2 c0 c1 c2 c3 c4 c5 c6 c7 c8 c9 c10
          go_wp2_with fail
          have hsz := HR2.out.size
          obtain ⟨hS, hrM, hBut, hn⟩ := HS.out
          have hlm := hS.len
          have hrl := HR2.out.le
          have P0 := Part.start (o := i * 11) (vs := cdCells (x, m)) HR2.out.blk
          have P1 := P0.step (v := .int .i64 x.r) rfl (by omega) rfl
          have P2 := P1.step (v := .int .u32 x.a) rfl (by omega) rfl
          have P3 := P2.step (v := .int .i64 x.l) rfl (by omega) rfl
          have P4 := P3.step (v := .int .i64 x.i) rfl (by omega) rfl
          have P5 := P4.step (v := .int .i64 x.o) rfl (by omega) rfl
          have P6 := P5.step (v := .slice x.pa x.pn x.pc) rfl (by omega) rfl
          have P7 := P6.step (v := .int .u32 x.nx) rfl (by omega) rfl
          have P8 := P7.step (v := .int .i64 x.md) rfl (by omega) rfl
          have P9 := P8.step (v := .int .i64 x.pf) rfl (by omega) rfl
          have P10 := P9.step (v := .slice x.ca x.cn x.cc) rfl (by omega) rfl
          have P11 := P10.step (v := .int .i64 m) rfl (by omega) rfl
          obtain ⟨cur3, hrow⟩ := HR2.out.store (i := i) (by omega) P11
          have hT := hS.take hn hlt (by rw [HQ.out]; exact HPT.out)
          rw [HQ.out] at hT
          refine ⟨⟨i + 1, j + 1, M.set i (x, m), cur3, by go_num, by go_num, hT, hrow, ?_⟩, by simp [intOf]; omega⟩
          iterate 11 refine But.setCell ?_ (.inr (by simp)) _
          exact HB2.out
      · have hj : j = n := by omega
        subst hj
        have HS := Lib.hid (And.intro hS (And.intro hrM hBut))
        obtain ⟨w2, cur2, hclr, h2, h3, h4, h5⟩ := run_clear46 wr b i (j - i) (cap - i) cap 0 cur' hrM.blk hrM.size (by omega)
        have H2 := Lib.hid (And.intro h2 (And.intro h3 (And.intro h4 h5)))
        clear h2 h3 h4 h5 hS hrM hBut
        have hf : ¬ ((j : Int) < j) := by omega
        go_wp2_with fail
        go_ret
        obtain ⟨hS, hrM, hBut⟩ := HS.out
        obtain ⟨hr, hd, hn, hi0, hall⟩ := HD.out
        obtain ⟨h2, h3, h4, h5⟩ := H2.out
        have hhead := hS.head
        rw [hn, List.take_length] at hhead
        have hlen : (L.filter (fun c => !p c)).length = i := by rw [← hhead, List.length_take, hS.len]; omega
        refine ⟨by rw [hlen]; rfl, ⟨cur2, ?_⟩, hBut.thenSet h5 (.inr (by simp))⟩
        rw [← hhead]
        exact hrM.head (by rw [hS.len]; omega) h2 h3 h4
end Go.Proofs.Ytlgmoiilfigamaa
