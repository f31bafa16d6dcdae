/- The least-cost tables: their building. -/
import Derived.Test.YtfejkaemledipaaGrid
import Derived.Deep.RegionLaw
namespace Go.Proofs.Ytfejkaemledipaa
open Go.RowKit

theorem tab_two {wr W w1 : World} {sz r m o : Nat} {e1 e2 : TypeId} {z1 z2 v1 v1' v2 : Value} {bl1 bl2 : List Nat} (hs : sz + 2 ≤ wr.heap.size)
    (T1 : Tab z1 e1 wr sz (sz :: (sz + 1) :: (blk v2 ++ bl2)) v1 bl1 m) (T2 : Tab z2 e2 wr sz (sz :: (sz + 1) :: (blk v1 ++ bl1)) v2 bl2 m)
    (hB : Below wr.heap.size wr W) (hr : r = wr.heap.size) (hrW : r < W.heap.size) (hrc : ∀ k, k < m → W.cell? ⟨r, k, none⟩ = some z1 ∧ W.frozen? ⟨r, k, none⟩ = false)
    (hO : OwnS Rp.raw e1 w1 sz ((sz :: (sz + 1) :: (blk v2 ++ bl2)) ++ bl1) v1' (rowVals bl1 m ++ [.slice (some ⟨r, 0, none⟩) m m])) (hg : W.grownBy w1 v1.ownBlock) (hat : v1'.ownBlock = v1.ownBlock ∨ v1'.ownBlock = some W.heap.size) :
    Tab z1 e1 (w1.setCell ⟨sz + 1, o, none⟩ v1') sz (sz :: (sz + 1) :: (blk v2 ++ bl2)) v1' (bl1 ++ [r]) m ∧ Tab z2 e2 (w1.setCell ⟨sz + 1, o, none⟩ v1') sz (sz :: (sz + 1) :: (blk v1' ++ (bl1 ++ [r]))) v2 bl2 m ∧
      w1.heap[sz]? = wr.heap[sz]? ∧ w1.heap[sz + 1]? = wr.heap[sz + 1]? ∧ sz + 2 ≤ w1.heap.size := by
  have hb1 := T1.blk_lt
  have hb2 := T2.blk_lt
  have hnv : ∀ b, b ∈ blk v1 → b ≠ sz ∧ b ≠ sz + 1 ∧ b < wr.heap.size := fun b hb => by
    obtain ⟨_, h2, h3, _⟩ := hb1.1 b hb
    simp only [List.mem_cons, not_or] at h3
    exact ⟨h3.1, h3.2.1, h2⟩
  have hown : ∀ b, v1.ownBlock = some b → b ≠ sz ∧ b ≠ sz + 1 ∧ b < wr.heap.size := fun b hb => hnv b (mem_blk.2 hb)
  have hkeep : ∀ b, b < wr.heap.size → v1.ownBlock ≠ some b → w1.heap[b]? = wr.heap[b]? := fun b hb hn =>
    (hg.block b (Nat.lt_of_lt_of_le hb hB.size) (fun e => hn e.symm)).trans (hB.block b hb)
  have hout : ∀ b, b < wr.heap.size → b ∉ blk v1 → b ∉ blk v1' := fun b hb hn => by
    rw [mem_blk] at hn ⊢
    rcases hat with h | h <;> rw [h]
    · exact hn
    · have := hB.size; simp; omega
  refine ⟨?_, ?_, hkeep sz (by omega) (fun e => (hown _ e).1 rfl), hkeep (sz + 1) (by omega) (fun e => (hown _ e).2.1 rfl), by have := hB.size; have := hg.size; omega⟩
  · have hra : r ∉ sz :: (sz + 1) :: (blk v2 ++ bl2) := by
      simp only [List.mem_cons, List.mem_append, not_or]
      refine ⟨by omega, by omega, fun h => ?_, fun h => ?_⟩
      · have := (hb2.1 r h).2.1; omega
      · have := (hb2.2 r h).2.1; omega
    have hrb : r ∉ bl1 := fun h => by have := (hb1.2 r h).2.1; omega
    have hT := (T1.below hB).push (by omega) hrW hra hrb (fun e => by have := (hown _ e).2.2; omega) hrc hO hg hat
    refine hT.move fun b hb hn => ⟨hn, ?_⟩
    simp only [List.mem_cons, not_or] at hn
    exact setCell_other _ _ _ _ _ hn.2.1
  · refine T2.move fun b hb hn => ?_
    simp only [List.mem_cons, List.mem_append, not_or] at hn ⊢
    refine ⟨⟨hn.1, hn.2.1, hout b hb hn.2.2.1, hn.2.2.2, by simp; omega⟩, ?_⟩
    rw [setCell_other _ _ _ _ _ hn.2.1]
    exact hkeep b hb (fun e => hn.2.2.1 (mem_blk.2 e))

/-- The two tables under way, in the local variable (block sz + 1), the result (block sz) being still untouched. -/
def Tabs (e1 e2 : TypeId) (wr : World) (sz : Nat) (v1 v2 : Value) (bl1 bl2 : List Nat) (m : Nat) : Prop :=
  (wr.cell? ⟨sz + 1, 0, none⟩ = some v1 ∧ wr.cell? ⟨sz + 1, 1, none⟩ = some v2 ∧ wr.cell? ⟨sz, 0, none⟩ = some (.slice none 0 0) ∧ wr.cell? ⟨sz, 1, none⟩ = some (.slice none 0 0)) ∧
  (∀ o, wr.frozen? ⟨sz, o, none⟩ = false) ∧ (∀ o, wr.frozen? ⟨sz + 1, o, none⟩ = false) ∧ sz + 2 ≤ wr.heap.size ∧
  Tab (.int .i64 0) e1 wr sz (sz :: (sz + 1) :: (blk v2 ++ bl2)) v1 bl1 m ∧ Tab (.bool false) e2 wr sz (sz :: (sz + 1) :: (blk v1 ++ bl1)) v2 bl2 m

theorem Tabs.push1 {e1 e2 : TypeId} {wr W w1 : World} {sz r m : Nat} {v1 v1' v2 : Value} {bl1 bl2 : List Nat} (h : Tabs e1 e2 wr sz v1 v2 bl1 bl2 m)
    (hB : Below wr.heap.size wr W) (hr : r = wr.heap.size) (hrW : r < W.heap.size) (hrc : ∀ k, k < m → W.cell? ⟨r, k, none⟩ = some (.int .i64 0) ∧ W.frozen? ⟨r, k, none⟩ = false)
    (hO : OwnS Rp.raw e1 w1 sz ((sz :: (sz + 1) :: (blk v2 ++ bl2)) ++ bl1) v1' (rowVals bl1 m ++ [.slice (some ⟨r, 0, none⟩) m m])) (hg : W.grownBy w1 v1.ownBlock) (hat : v1'.ownBlock = v1.ownBlock ∨ v1'.ownBlock = some W.heap.size) :
    Tabs e1 e2 (w1.setCell ⟨sz + 1, 0, none⟩ v1') sz v1' v2 (bl1 ++ [r]) bl2 m := by
  obtain ⟨⟨c1, c2, c3, c4⟩, f1, f2, hs, T1, T2⟩ := h
  obtain ⟨t1, t2, k1, k2, k3⟩ := tab_two (o := 0) hs T1 T2 hB hr hrW hrc hO hg hat
  refine ⟨⟨World.cell?_setCell_same _ _ _ ((cell_of_heap k2 _).trans c1), ?_, ?_, ?_⟩, fun o => ?_, fun o => ?_, by rw [setCell_size]; exact k3, t1, t2⟩
  · rw [World.cell?_setCell_other (h := by intro e; cases e)]; exact (cell_of_heap k2 _).trans c2
  · rw [World.cell?_setCell_other (h := by intro e; injection e; omega)]; exact (cell_of_heap k1 _).trans c3
  · rw [World.cell?_setCell_other (h := by intro e; injection e; omega)]; exact (cell_of_heap k1 _).trans c4
  · rw [World.frozen?_setCell]; exact (frozen_of_heap k1 o).trans (f1 o)
  · rw [World.frozen?_setCell]; exact (frozen_of_heap k2 o).trans (f2 o)
theorem Tabs.push2 {e1 e2 : TypeId} {wr W w1 : World} {sz r m : Nat} {v1 v2' v2 : Value} {bl1 bl2 : List Nat} (h : Tabs e1 e2 wr sz v1 v2 bl1 bl2 m)
    (hB : Below wr.heap.size wr W) (hr : r = wr.heap.size) (hrW : r < W.heap.size) (hrc : ∀ k, k < m → W.cell? ⟨r, k, none⟩ = some (.bool false) ∧ W.frozen? ⟨r, k, none⟩ = false)
    (hO : OwnS Rp.raw e2 w1 sz ((sz :: (sz + 1) :: (blk v1 ++ bl1)) ++ bl2) v2' (rowVals bl2 m ++ [.slice (some ⟨r, 0, none⟩) m m])) (hg : W.grownBy w1 v2.ownBlock) (hat : v2'.ownBlock = v2.ownBlock ∨ v2'.ownBlock = some W.heap.size) :
    Tabs e1 e2 (w1.setCell ⟨sz + 1, 1, none⟩ v2') sz v1 v2' bl1 (bl2 ++ [r]) m := by
  obtain ⟨⟨c1, c2, c3, c4⟩, f1, f2, hs, T1, T2⟩ := h
  obtain ⟨t2, t1, k1, k2, k3⟩ := tab_two (o := 1) hs T2 T1 hB hr hrW hrc hO hg hat
  refine ⟨⟨?_, World.cell?_setCell_same _ _ _ ((cell_of_heap k2 _).trans c2), ?_, ?_⟩, fun o => ?_, fun o => ?_, by rw [setCell_size]; exact k3, t1, t2⟩
  · rw [World.cell?_setCell_other (h := by intro e; cases e)]; exact (cell_of_heap k2 _).trans c1
  · rw [World.cell?_setCell_other (h := by intro e; injection e; omega)]; exact (cell_of_heap k1 _).trans c3
  · rw [World.cell?_setCell_other (h := by intro e; injection e; omega)]; exact (cell_of_heap k1 _).trans c4
  · rw [World.frozen?_setCell]; exact (frozen_of_heap k1 o).trans (f1 o)
  · rw [World.frozen?_setCell]; exact (frozen_of_heap k2 o).trans (f2 o)

theorem made_cells (w : World) (z : Value) (n : Nat) (t : TypeId) (k : Nat) (hk : k < n) : (w.alloc (.cells (madeCells #[z] n) t)).cell? ⟨w.heap.size, k, none⟩ = some z ∧ (w.alloc (.cells (madeCells #[z] n) t)).frozen? ⟨w.heap.size, k, none⟩ = false := by
  constructor
  · have := new_cells w (madeCells #[z] n).toList t k z (by rw [toList_madeCells_one, List.getElem?_replicate, if_pos hk])
    simpa using this
  · have : (w.alloc (.cells (madeCells #[z] n) t)).heap[w.heap.size]? = some (.cells (madeCells #[z] n) t) := by
      show (w.heap.push (Obj.cells (madeCells #[z] n) t))[w.heap.size]? = _
      rw [Array.getElem?_push, if_pos rfl]
    simp only [World.frozen?, this]
    simp
/-- A row made, behind a draw, ahead of a literal. -/
theorem made_cells2 (w : World) (z : Value) (n q : Nat) (t : TypeId) (b : Obj) (k : Nat) (hk : k < n) : (((w.drewN q).alloc (.cells (madeCells #[z] n) t)).alloc b).cell? ⟨w.heap.size, k, none⟩ = some z ∧ (((w.drewN q).alloc (.cells (madeCells #[z] n) t)).alloc b).frozen? ⟨w.heap.size, k, none⟩ = false := by
  obtain ⟨h1, h2⟩ := made_cells (w.drewN q) z n t k hk
  have hB : Below ((w.drewN q).alloc (.cells (madeCells #[z] n) t)).heap.size ((w.drewN q).alloc (.cells (madeCells #[z] n) t)) (((w.drewN q).alloc (.cells (madeCells #[z] n) t)).alloc b) := (Below.refl _ _).alloc (Nat.le_refl _) _
  have hs : (w.drewN q).heap.size = w.heap.size := rfl
  rw [hs] at h1 h2
  exact ⟨cell_up hB h1, frozen_up hB (by simp) h2⟩
theorem below_daa (w : World) (a b : Obj) (n : Nat) : Below w.heap.size w (((w.drewN n).alloc a).alloc b) :=
  ((below_drewN (Below.refl _ _) _).alloc (by simp) _).alloc (by simp) _
theorem made_cells3 (w : World) (z : Value) (n : Nat) (t : TypeId) (b : Obj) (k : Nat) (hk : k < n) : ((w.drew.alloc (.cells (madeCells #[z] n) t)).alloc b).cell? ⟨w.heap.size, k, none⟩ = some z ∧ ((w.drew.alloc (.cells (madeCells #[z] n) t)).alloc b).frozen? ⟨w.heap.size, k, none⟩ = false :=
  made_cells2 w z n 1 t b k hk
theorem below_daa1 (w : World) (a b : Obj) : Below w.heap.size w ((w.drew.alloc a).alloc b) := below_daa w a b 1
theorem hat_of {v : Value} {g s n c : Nat} (h : v.ownBlock = some g ∨ g = s) : (Value.slice (some ⟨g, 0, none⟩) n c).ownBlock = v.ownBlock ∨ (Value.slice (some ⟨g, 0, none⟩) n c).ownBlock = some s := by
  rcases h with h | h
  · exact .inl h.symm
  · subst h; exact .inr rfl
theorem lit_cells (w : World) (u : Value) (a : Obj) (t : TypeId) (j : Nat) (x : Value) (h : [u][j]? = some x) : ((w.drew.alloc a).alloc (.cells #[u] t)).cell? ⟨w.heap.size + 1, j, none⟩ = some x := by
  have := new_cells (w.drew.alloc a) [u] t j x h
  simpa using this
theorem Tabs.apart1 {e1 e2 : TypeId} {wr : World} {sz m : Nat} {v1 v2 : Value} {bl1 bl2 : List Nat} (h : Tabs e1 e2 wr sz v1 v2 bl1 bl2 m) : some (sz + 1) ≠ v1.ownBlock := by
  obtain ⟨_, _, _, _, T1, _⟩ := h
  intro e
  have := (T1.blk_lt.1 _ (mem_blk.2 e.symm)).2.2.1
  simp at this
theorem Tabs.apart2 {e1 e2 : TypeId} {wr : World} {sz m : Nat} {v1 v2 : Value} {bl1 bl2 : List Nat} (h : Tabs e1 e2 wr sz v1 v2 bl1 bl2 m) : some (sz + 1) ≠ v2.ownBlock := by
  obtain ⟨_, _, _, _, _, T2⟩ := h
  intro e
  have := (T2.blk_lt.1 _ (mem_blk.2 e.symm)).2.2.1
  simp at this
theorem Tabs.own1 {e1 e2 : TypeId} {wr : World} {sz m : Nat} {v1 v2 : Value} {bl1 bl2 : List Nat} (h : Tabs e1 e2 wr sz v1 v2 bl1 bl2 m) : OwnS Rp.raw e1 wr sz ((sz :: (sz + 1) :: (blk v2 ++ bl2)) ++ bl1) v1 (rowVals bl1 m) ∧ ∀ b ∈ (sz :: (sz + 1) :: (blk v2 ++ bl2)) ++ bl1, b < wr.heap.size := by
  obtain ⟨_, _, _, hs, T1, T2⟩ := h
  have h1 := T1.blk_lt
  have h2 := T2.blk_lt
  refine ⟨T1.1, fun b hb => ?_⟩
  simp only [List.mem_append, List.mem_cons] at hb
  rcases hb with (rfl | rfl | hb | hb) | hb
  · omega
  · omega
  · exact (h2.1 b hb).2.1
  · exact (h2.2 b hb).2.1
  · exact (h1.2 b hb).2.1
theorem Tabs.own2 {e1 e2 : TypeId} {wr : World} {sz m : Nat} {v1 v2 : Value} {bl1 bl2 : List Nat} (h : Tabs e1 e2 wr sz v1 v2 bl1 bl2 m) : OwnS Rp.raw e2 wr sz ((sz :: (sz + 1) :: (blk v1 ++ bl1)) ++ bl2) v2 (rowVals bl2 m) ∧ ∀ b ∈ (sz :: (sz + 1) :: (blk v1 ++ bl1)) ++ bl2, b < wr.heap.size := by
  obtain ⟨_, _, _, hs, T1, T2⟩ := h
  have h1 := T1.blk_lt
  have h2 := T2.blk_lt
  refine ⟨T2.1, fun b hb => ?_⟩
  simp only [List.mem_append, List.mem_cons] at hb
  rcases hb with (rfl | rfl | hb | hb) | hb
  · omega
  · omega
  · exact (h1.1 b hb).2.1
  · exact (h1.2 b hb).2.1
  · exact (h2.2 b hb).2.1
end Go.Proofs.Ytfejkaemledipaa
