/- Hops in memory; Iface. -/
import Derived.Test.YtlkbaplfffbmkaaHd
import Derived.Test.YtlkbaplfffbmkaaIc
import Derived.Test.YtlkbaplfffbmkaaSt
namespace Go.Proofs.Ytlkbaplfffbmkaa
open Go.RowKit

/-- interfaces by numbers, and routers' nets -/
structure HD where
  of : List (Int × If)
  M : Nat → Nat → Nat → Option Int
def HD.get (D : HD) (id : Int) : Option If := (D.of.find? (fun p => decide (p.1 = id))).map (·.2)
def hopCells (bm : Nat) (b : Nat → Nat) : Array Value := (.map (some bm) :: (List.range 16).map (fun i => .pointer (some ⟨b i, 0, none⟩))).toArray
structure HopsAt (w : World) (h : Nat) (D : HD) : Prop where
  out : ∃ (bm clk : Nat) (es : List (MR.Ent Int)) (b : Nat → Nat), w.heap[h]? = some (.cells (hopCells bm b) 80) ∧ MR.MapAt IN w bm es clk ∧ (∀ id, MR.get? es id = (D.get id).map If.v) ∧ ∀ i, i < 16 → ∃ N n, TrieI w (b i) N n (D.M i)
  wf : ∀ i, i < 16 → ∀ a d v, D.M i a d = some v → IN.ok v
theorem HopsAt.keep {w w' : World} {h : Nat} {D : HD} (H : HopsAt w h D) (hb : Below w.heap.size w w') : HopsAt w' h D := by
  obtain ⟨⟨bm, clk, es, b, h1, h2, h3, h4⟩, hw⟩ := H
  refine ⟨⟨bm, clk, es, b, (hb.block _ (lt_of_blk h1)).trans h1, h2.blk_iff IN (hb.block _ (lt_of_blk h2.blk)), h3, fun i hi => ?_⟩, hw⟩
  obtain ⟨N, n, hT⟩ := h4 i hi
  exact ⟨N, n, hT.below hb⟩
theorem hop_nth (bm : Nat) (b : Nat → Nat) {i : Nat} (hi : i < 16) : (hopCells bm b)[1 + i]? = some (.pointer (some ⟨b i, 0, none⟩)) := by
  unfold hopCells
  rw [List.getElem?_toArray, Nat.add_comm, List.getElem?_cons_succ, List.getElem?_map, List.getElem?_range hi]
  rfl
theorem zero83 (w : World) : (zeroValue 34).run Try.prog w = .ok (.agg #[.int .i64 0, .int .i64 0, .int .u32 0, .int .i64 0, .int .i64 0]) w := by kernel_rfl
section
variable {P : Program} {a : Act} {w : World}
theorem ret_cell2 {fn : Func} {R : Ending → World → Prop} {p q : Tmp} {ty T : TypeId} {b : Nat} {cells : Array Value} {fr : Nat × Nat} (hr : fn.results = #[.cell p ty, .tmp q]) (hp : a.tmps.getD p undef = .pointer (some ⟨b, 0, none⟩)) (hd : a.defers = [])
    (hb : w.heap[b]? = some (.cells cells T fr)) {d : TypeDesc} (hu : P.underlying ty = some d) (hdr : d.isRow = true) (hi : (P.info? ty).map (·.size) = some cells.size) (h : R (.returned (.tuple #[.agg cells, a.tmps.getD q undef])) w) : bodyPost P fn R .ret a w := by
  refine bodyPost_ret ?_ hd h
  simp only [results, hr]
  have hp' : a.tmps[p]?.getD undef = .pointer (some ⟨b, 0, none⟩) := by simpa using hp
  simp [asAddr, hp', run_load_whole (P := P) hb hu hdr hi]
end
set_option maxRecDepth 100000 in
set_option maxHeartbeats 1000000 in
theorem iface_any {w : World} {h : Nat} {D : HD} (H : HopsAt w h D) {id : Int} (hid : IN.ok id) (r : If) (is : Bool) (hr : D.get id = if is then some r else none) (hz : is = false → r = ⟨0, 0, 0, 0, 0⟩) : Calls Try.prog 16 #[.pointer (some ⟨h, 0, none⟩), .int .i64 id] w fun e w' => e = .returned (.tuple #[r.v, .bool is]) ∧ Below w.heap.size w w' := by
  obtain ⟨⟨bm, clk, es, b, h1, h2, h3, h4⟩, hw⟩ := H
  have hg : (MR.get? es id).getD (.agg #[.int .i64 0, .int .i64 0, .int .u32 0, .int .i64 0, .int .i64 0]) = r.v ∧ (MR.get? es id).isSome = is := by
    rw [h3, hr]
    cases is with
    | true => exact ⟨rfl, rfl⟩
    | false => rw [hz rfl]; exact ⟨rfl, rfl⟩
  have hlk : ∀ W, W.heap[bm]? = w.heap[bm]? → (Instr.lookup 76 (.map (some bm)) (.int .i64 id) true).run Try.prog W = .ok (.tuple #[r.v, .bool is]) W := fun W hW => by
    have := MR.run_lookup IN (h2.blk_iff IN hW) hid Try.underlying76 zero83 true
    rw [hg.1, hg.2, if_pos rfl] at this
    exact this
  have c0 : w.cell? ⟨h, 0, none⟩ = some (.map (some bm)) := cell_of h1 rfl
  have hal := (Below.refl w.heap.size w).alloc (Nat.le_refl _) (.cells #[.int .i64 0, .int .i64 0, .int .u32 0, .int .i64 0, .int .i64 0] 34)
  have lb := lt_of_blk h2.blk
  have lh := lt_of_blk h1
  have hlk1 := hlk _ (hal.block _ lb)
  have c1 : (w.alloc (.cells #[.int .i64 0, .int .i64 0, .int .u32 0, .int .i64 0, .int .i64 0] 34)).cell? ⟨h, 0, none⟩ = some (.map (some bm)) := cell_of (hold h1) rfl
  have HR := Lib.hid (And.intro hal lh)
  clear h1 h2 h3 h4 hw hg hlk hr hz hid lb lh hal c0
  unfold If.v at *
  go_enter Try.func16, Try.ntmps16
  go_wp2_with fail
  have hbb := ((Below.refl w.heap.size w).alloc (Nat.le_refl _) (.cells #[.int .i64 r.id, .int .i64 r.r, .int .u32 (r.ad : Int), .int .i64 r.ln, .int .i64 r.cp] 34))
  refine ret_cell2 (b := w.heap.size) rfl rfl rfl (hold (hnew _ _)) Try.underlying34 rfl (by kernel_rfl) ?_
  exact ⟨rfl, hbb.alloc hbb.size _⟩
end Go.Proofs.Ytlkbaplfffbmkaa
