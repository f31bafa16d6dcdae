/- Tables of rows of their own: built row by row, then stored into. -/
import Derived.Test.YtfejkaemledipaaPagesInv
import Derived.Test.YtfejkaemledipaaRep2
namespace Go.Proofs.Ytfejkaemledipaa
open Go.RowKit

def rowVals (bl : List Nat) (m : Nat) : List Value := bl.map fun b => .slice (some ⟨b, 0, none⟩) m m
theorem rowVals_length (bl : List Nat) (m : Nat) : (rowVals bl m).length = bl.length := by simp [rowVals]

theorem lt_of_heap {w w' : World} {b : Nat} (e : w'.heap[b]? = w.heap[b]?) (hb : b < w.heap.size) : b < w'.heap.size := by
  rcases Nat.lt_or_ge b w'.heap.size with h | h
  · exact h
  · rw [Array.getElem?_eq_none h, Array.getElem?_eq_getElem hb] at e
    cases e

/-- v holds rows, each with m times z; all is the call's own, and lies apart from av. -/
def Tab (z : Value) (e : TypeId) (w : World) (base : Nat) (av : List Nat) (v : Value) (bl : List Nat) (m : Nat) : Prop :=
  OwnS Rp.raw e w base (av ++ bl) v (rowVals bl m) ∧ (∀ b ∈ bl, base ≤ b ∧ b < w.heap.size ∧ b ∉ av ∧ ∀ k, k < m → w.cell? ⟨b, k, none⟩ = some z ∧ w.frozen? ⟨b, k, none⟩ = false) ∧ bl.Nodup

theorem Tab.nil (z : Value) (e : TypeId) (w : World) (base : Nat) (av : List Nat) (m : Nat) : Tab z e w base av (.slice none 0 0) [] m := ⟨OwnS.nil _ _ _ _ _, by simp, List.nodup_nil⟩

theorem Tab.move {z : Value} {e : TypeId} {w w' : World} {base : Nat} {av av' : List Nat} {v : Value} {bl : List Nat} {m : Nat} (h : Tab z e w base av v bl m) (hm : ∀ b, b < w.heap.size → b ∉ av → b ∉ av' ∧ w'.heap[b]? = w.heap[b]?) : Tab z e w' base av' v bl m := by
  obtain ⟨hO, hb, hn⟩ := h
  refine ⟨hO.move fun b hb hn => ?_, fun b hbm => ?_, hn⟩
  · simp only [List.mem_append, not_or] at hn ⊢
    exact ⟨⟨(hm b hb hn.1).1, hn.2⟩, (hm b hb hn.1).2⟩
  · obtain ⟨h1, h2, h3, h4⟩ := hb b hbm
    obtain ⟨m1, m2⟩ := hm b h2 h3
    exact ⟨h1, lt_of_heap m2 h2, m1, fun k hk => ⟨(cell_of_heap m2 k).trans (h4 k hk).1, (frozen_of_heap m2 k).trans (h4 k hk).2⟩⟩

theorem Tab.below {z : Value} {e : TypeId} {w w' : World} {base : Nat} {av : List Nat} {v : Value} {bl : List Nat} {m : Nat} (h : Tab z e w base av v bl m) (hb : Below w.heap.size w w') : Tab z e w' base av v bl m :=
  h.move fun b hb' hn => ⟨hn, hb.block b hb'⟩

theorem Tab.blk_lt {z : Value} {e : TypeId} {w : World} {base : Nat} {av : List Nat} {v : Value} {bl : List Nat} {m : Nat} (h : Tab z e w base av v bl m) : (∀ b ∈ blk v, base ≤ b ∧ b < w.heap.size ∧ b ∉ av ∧ b ∉ bl) ∧ ∀ b ∈ bl, base ≤ b ∧ b < w.heap.size ∧ b ∉ av := by
  obtain ⟨hO, hb, _⟩ := h
  refine ⟨fun b hbm => ?_, fun b hbm => ⟨(hb b hbm).1, (hb b hbm).2.1, (hb b hbm).2.2.1⟩⟩
  have h1 := hO.blk_ge b hbm
  have h2 := hO.blk_lt b hbm
  obtain ⟨_, _, hL, _⟩ := hO
  have := hL b (mem_blk.1 hbm)
  simp only [List.mem_append, not_or] at this
  exact ⟨h1, h2, this.1, this.2⟩

/-- One more row. -/
theorem Tab.push {z : Value} {e : TypeId} {W w' : World} {base : Nat} {av : List Nat} {v v' : Value} {bl : List Nat} {m r : Nat} (h : Tab z e W base av v bl m) (hr : base ≤ r) (hrW : r < W.heap.size) (hra : r ∉ av) (hrb : r ∉ bl) (hrv : v.ownBlock ≠ some r)
    (hrc : ∀ k, k < m → W.cell? ⟨r, k, none⟩ = some z ∧ W.frozen? ⟨r, k, none⟩ = false)
    (hO : OwnS Rp.raw e w' base (av ++ bl) v' (rowVals bl m ++ [.slice (some ⟨r, 0, none⟩) m m])) (hg : W.grownBy w' v.ownBlock) (hat : v'.ownBlock = v.ownBlock ∨ v'.ownBlock = some W.heap.size) : Tab z e w' base av v' (bl ++ [r]) m := by
  obtain ⟨hO0, hb, hn⟩ := h
  have hrv' : v'.ownBlock ≠ some r := by
    rcases hat with h | h <;> rw [h]
    · exact hrv
    · simp; omega
  have hrow : rowVals (bl ++ [r]) m = rowVals bl m ++ [.slice (some ⟨r, 0, none⟩) m m] := by simp [rowVals]
  refine ⟨?_, fun b hbm => ?_, ?_⟩
  · rw [hrow]
    obtain ⟨cells, h1, h2, h3⟩ := hO
    refine ⟨cells, h1, fun b hb hm => ?_, fun i x hi => h3 i x hi⟩
    rw [← List.append_assoc, List.mem_append] at hm
    rcases hm with hm | hm
    · exact h2 b hb hm
    · simp at hm; subst hm; exact hrv' hb
  · have key : base ≤ b ∧ b < W.heap.size ∧ b ∉ av ∧ (∀ k, k < m → W.cell? ⟨b, k, none⟩ = some z ∧ W.frozen? ⟨b, k, none⟩ = false) ∧ some b ≠ v.ownBlock := by
      rcases List.mem_append.1 hbm with hbm | hbm
      · obtain ⟨h1, h2, h3, h4⟩ := hb b hbm
        refine ⟨h1, h2, h3, h4, fun e => ?_⟩
        obtain ⟨_, _, hL, _⟩ := hO0
        exact hL b e.symm (List.mem_append_right _ hbm)
      · simp at hbm; subst hbm
        exact ⟨hr, hrW, hra, hrc, fun e => hrv e.symm⟩
    obtain ⟨h1, h2, h3, h4, h5⟩ := key
    have m2 := hg.block b h2 h5
    exact ⟨h1, lt_of_heap m2 h2, h3, fun k hk => ⟨(cell_of_heap m2 k).trans (h4 k hk).1, (frozen_of_heap m2 k).trans (h4 k hk).2⟩⟩
  · rw [List.nodup_append]
    exact ⟨hn, by simp, fun a ha b hb => by simp at hb; subst hb; exact fun e => hrb (e ▸ ha)⟩

/-- A table whose blocks are known. -/
def Grid {α : Type} (enc : α → Value) (w : World) (base : Nat) (av : Nat → Prop) (g : Nat) (r : Nat → Nat) (n m : Nat) (f : Nat → Nat → α) : Prop :=
  base ≤ g ∧ g < w.heap.size ∧ ¬ av g ∧ ∀ i, i < n → w.cell? ⟨g, i, none⟩ = some (.slice (some ⟨r i, 0, none⟩) m m) ∧ base ≤ r i ∧ r i < w.heap.size ∧ ¬ av (r i) ∧ r i ≠ g ∧ (∀ j, j < n → r j = r i → j = i) ∧
    ∀ k, k < m → w.cell? ⟨r i, k, none⟩ = some (enc (f i k)) ∧ w.frozen? ⟨r i, k, none⟩ = false

theorem Tab.grid {α : Type} {enc : α → Value} {z0 : α} {e : TypeId} {w : World} {base : Nat} {av : List Nat} {v : Value} {bl : List Nat} {m : Nat} (h : Tab (enc z0) e w base av v bl m) (hne : 0 < bl.length) :
    ∃ g c, v = .slice (some ⟨g, 0, none⟩) bl.length c ∧ Grid enc w base (· ∈ av) g (fun i => bl.getD i 0) bl.length m (fun _ _ => z0) := by
  have hlt := h.blk_lt
  obtain ⟨hO, hb, hn⟩ := h
  obtain ⟨A, c, rfl⟩ := hO.val
  obtain ⟨g, rfl, h1, h2⟩ := hO.addr (by rw [rowVals_length]; exact hne)
  have hgb : g ∈ blk (.slice (some ⟨g, 0, none⟩) (rowVals bl m).length c) := mem_blk.2 rfl
  refine ⟨g, c, by rw [rowVals_length], h1, h2, (hlt.1 g hgb).2.2.1, fun i hi => ?_⟩
  obtain ⟨cs, hk, hc⟩ := hO.get (i := i) (by rw [rowVals_length]; exact hi)
  have hr : bl.getD i 0 = bl[i] := by simp [List.getD, hi]
  have hmem : bl[i] ∈ bl := List.getElem_mem hi
  obtain ⟨b1, b2, b3, b4⟩ := hb _ hmem
  have hc0 := hc 0 _ (by rw [hk.1]; rfl)
  simp [rowVals] at hc0
  simp only [hr]
  refine ⟨?_, b1, b2, b3, fun e => (hlt.1 g hgb).2.2.2 (e ▸ hmem), fun j hj e => ?_, b4⟩
  · have hsz : Rp.raw.sz = 1 := rfl
    simpa [hsz] using hc0
  · have hj' : bl.getD j 0 = bl[j] := by simp [List.getD, hj]
    rw [hj'] at e
    exact (List.getElem_inj hn).1 e

theorem Grid.move {α : Type} {enc : α → Value} {w w' : World} {base : Nat} {av av' : Nat → Prop} {g : Nat} {r : Nat → Nat} {n m : Nat} {f : Nat → Nat → α} (h : Grid enc w base av g r n m f) (hm : ∀ b, b < w.heap.size → ¬ av b → ¬ av' b ∧ w'.heap[b]? = w.heap[b]?) : Grid enc w' base av' g r n m f := by
  obtain ⟨h1, h2, h3, h4⟩ := h
  obtain ⟨m1, m2⟩ := hm g h2 h3
  refine ⟨h1, lt_of_heap m2 h2, m1, fun i hi => ?_⟩
  obtain ⟨c1, c2, c3, c4, c5, c6, c7⟩ := h4 i hi
  obtain ⟨n1, n2⟩ := hm _ c3 c4
  exact ⟨(cell_of_heap m2 _).trans c1, c2, lt_of_heap n2 c3, n1, c5, c6, fun k hk => ⟨(cell_of_heap n2 k).trans (c7 k hk).1, (frozen_of_heap n2 k).trans (c7 k hk).2⟩⟩
theorem Grid.below {α : Type} {enc : α → Value} {w w' : World} {base : Nat} {av : Nat → Prop} {g : Nat} {r : Nat → Nat} {n m : Nat} {f : Nat → Nat → α} (h : Grid enc w base av g r n m f) (hb : Below w.heap.size w w') : Grid enc w' base av g r n m f :=
  h.move fun b hb' hn => ⟨hn, hb.block b hb'⟩

/-- A store into a table. -/
theorem Grid.store {α : Type} {enc : α → Value} {w : World} {base : Nat} {av : Nat → Prop} {g : Nat} {r : Nat → Nat} {n m : Nat} {f : Nat → Nat → α} (h : Grid enc w base av g r n m f) {i k : Nat} (hi : i < n) (hk : k < m) (x : α) :
    Grid enc (w.setCell ⟨r i, k, none⟩ (enc x)) base av g r n m (fun i' k' => if i' = i ∧ k' = k then x else f i' k') := by
  obtain ⟨h1, h2, h3, h4⟩ := h
  refine ⟨h1, by rw [setCell_size]; exact h2, h3, fun j hj => ?_⟩
  obtain ⟨c1, c2, c3, c4, c5, c6, c7⟩ := h4 j hj
  obtain ⟨d1, d2, d3, d4, d5, d6, d7⟩ := h4 i hi
  refine ⟨?_, c2, by rw [setCell_size]; exact c3, c4, c5, c6, fun q hq => ⟨?_, by rw [World.frozen?_setCell]; exact (c7 q hq).2⟩⟩
  · rw [World.cell?_setCell_other]
    · exact c1
    · intro e; cases e; exact d5 rfl
  · by_cases hjq : j = i ∧ q = k
    · obtain ⟨rfl, rfl⟩ := hjq
      rw [World.cell?_setCell_same (h := (c7 q hq).1)]; simp
    · rw [World.cell?_setCell_other]
      · simp [hjq, (c7 q hq).1]
      · intro e
        have e1 : r i = r j := by injection e
        have e2 : k = q := by injection e
        exact hjq ⟨(d6 j hj e1.symm), e2.symm⟩
end Go.Proofs.Ytfejkaemledipaa
