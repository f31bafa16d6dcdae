/- The least-cost tables: their filling, and what they hold. -/
import Derived.Test.YtfejkaemledipaaTabs36
import Derived.Test.YtfejkaemledipaaEq36e
namespace Go.Proofs.Ytfejkaemledipaa
open Go.RowKit

/-- Blocks that a table of the other kind must avoid. -/
def avs (sz g : Nat) (r : Nat → Nat) (n : Nat) (b : Nat) : Prop := b = sz ∨ b = sz + 1 ∨ b = g ∨ ∃ i, i < n ∧ b = r i

/-- The two tables, filled. -/
def Grids (wr : World) (sz g1 c1 g2 c2 : Nat) (r1 r2 : Nat → Nat) (n m : Nat) (f : Nat → Nat → Int) (s : Nat → Nat → Bool) : Prop :=
  (wr.cell? ⟨sz + 1, 0, none⟩ = some (.slice (some ⟨g1, 0, none⟩) n c1) ∧ wr.cell? ⟨sz + 1, 1, none⟩ = some (.slice (some ⟨g2, 0, none⟩) n c2) ∧ wr.cell? ⟨sz, 0, none⟩ = some (.slice none 0 0) ∧ wr.cell? ⟨sz, 1, none⟩ = some (.slice none 0 0)) ∧
  (∀ o, wr.frozen? ⟨sz, o, none⟩ = false) ∧ sz + 2 ≤ wr.heap.size ∧
  Grid (Value.int .i64) wr sz (avs sz g2 r2 n) g1 r1 n m f ∧ Grid Value.bool wr sz (avs sz g1 r1 n) g2 r2 n m s

theorem Tabs.grids {e1 e2 : TypeId} {wr : World} {sz m n : Nat} {v1 v2 : Value} {bl1 bl2 : List Nat} (h : Tabs e1 e2 wr sz v1 v2 bl1 bl2 m) (h1 : bl1.length = n) (h2 : bl2.length = n) (hn : 0 < n) :
    ∃ g1 c1 g2 c2 r1 r2, v1 = .slice (some ⟨g1, 0, none⟩) n c1 ∧ v2 = .slice (some ⟨g2, 0, none⟩) n c2 ∧ Grids wr sz g1 c1 g2 c2 r1 r2 n m (fun _ _ => 0) (fun _ _ => false) := by
  obtain ⟨⟨c1, c2, c3, c4⟩, f1, f2, hs, T1, T2⟩ := h
  have b1 := T1.blk_lt
  have b2 := T2.blk_lt
  obtain ⟨g1, d1, rfl, G1⟩ := Tab.grid (enc := Value.int .i64) (z0 := 0) T1 (by omega)
  obtain ⟨g2, d2, rfl, G2⟩ := Tab.grid (enc := Value.bool) (z0 := false) T2 (by omega)
  rw [h1] at G1 c1 ⊢
  rw [h2] at G2 c2 ⊢
  have key : ∀ (bl : List Nat) (i : Nat), i < bl.length → bl.getD i 0 ∈ bl := fun bl i hi => by simp [List.getD, hi]
  refine ⟨g1, d1, g2, d2, _, _, rfl, rfl, ⟨c1, c2, c3, c4⟩, f1, hs, G1.move fun b hb hn => ⟨?_, rfl⟩, G2.move fun b hb hn => ⟨?_, rfl⟩⟩
  · simp only [List.mem_cons, List.mem_append, not_or] at hn
    rintro (h | h | h | ⟨i, hi, h⟩)
    · exact hn.1 h
    · exact hn.2.1 h
    · exact hn.2.2.1 (mem_blk.2 (by rw [h]; rfl))
    · exact hn.2.2.2 (h ▸ key bl2 i (by omega))
  · simp only [List.mem_cons, List.mem_append, not_or] at hn
    rintro (h | h | h | ⟨i, hi, h⟩)
    · exact hn.1 h
    · exact hn.2.1 h
    · exact hn.2.2.1 (mem_blk.2 (by rw [h]; rfl))
    · exact hn.2.2.2 (h ▸ key bl1 i (by omega))

theorem Grids.below {wr w' : World} {sz g1 c1 g2 c2 : Nat} {r1 r2 : Nat → Nat} {n m : Nat} {f : Nat → Nat → Int} {s : Nat → Nat → Bool} (h : Grids wr sz g1 c1 g2 c2 r1 r2 n m f s) (hb : Below wr.heap.size wr w') : Grids w' sz g1 c1 g2 c2 r1 r2 n m f s := by
  obtain ⟨⟨a1, a2, a3, a4⟩, f1, hs, G1, G2⟩ := h
  exact ⟨⟨cell_up hb a1, cell_up hb a2, cell_up hb a3, cell_up hb a4⟩, fun o => frozen_up hb (by omega) (f1 o), by have := hb.size; omega, G1.below hb, G2.below hb⟩

def upd {α : Type} (f : Nat → Nat → α) (i k : Nat) (x : α) : Nat → Nat → α := fun i' k' => if i' = i ∧ k' = k then x else f i' k'

theorem Grids.store1 {wr : World} {sz g1 c1 g2 c2 : Nat} {r1 r2 : Nat → Nat} {n m : Nat} {f : Nat → Nat → Int} {s : Nat → Nat → Bool} (h : Grids wr sz g1 c1 g2 c2 r1 r2 n m f s) {i k : Nat} (hi : i < n) (hk : k < m) (x : Int) :
    Grids (wr.setCell ⟨r1 i, k, none⟩ (.int .i64 x)) sz g1 c1 g2 c2 r1 r2 n m (upd f i k x) s := by
  obtain ⟨⟨a1, a2, a3, a4⟩, f1, hs, G1, G2⟩ := h
  have hav := (G1.2.2.2 i hi).2.2.2.1
  have n1 : r1 i ≠ sz := fun e => hav (.inl e)
  have n2 : r1 i ≠ sz + 1 := fun e => hav (.inr (.inl e))
  refine ⟨⟨?_, ?_, ?_, ?_⟩, fun o => by rw [World.frozen?_setCell]; exact f1 o, by rw [setCell_size]; exact hs, G1.store hi hk x, G2.move fun b hb hn => ⟨hn, ?_⟩⟩
  · rw [cell_of_heap (setCell_other _ _ _ _ _ (Ne.symm n2))]; exact a1
  · rw [cell_of_heap (setCell_other _ _ _ _ _ (Ne.symm n2))]; exact a2
  · rw [cell_of_heap (setCell_other _ _ _ _ _ (Ne.symm n1))]; exact a3
  · rw [cell_of_heap (setCell_other _ _ _ _ _ (Ne.symm n1))]; exact a4
  · exact setCell_other _ _ _ _ _ (fun e => hn (.inr (.inr (.inr ⟨i, hi, e⟩))))
theorem Grids.store2 {wr : World} {sz g1 c1 g2 c2 : Nat} {r1 r2 : Nat → Nat} {n m : Nat} {f : Nat → Nat → Int} {s : Nat → Nat → Bool} (h : Grids wr sz g1 c1 g2 c2 r1 r2 n m f s) {i k : Nat} (hi : i < n) (hk : k < m) (x : Bool) :
    Grids (wr.setCell ⟨r2 i, k, none⟩ (.bool x)) sz g1 c1 g2 c2 r1 r2 n m f (upd s i k x) := by
  obtain ⟨⟨a1, a2, a3, a4⟩, f1, hs, G1, G2⟩ := h
  have hav := (G2.2.2.2 i hi).2.2.2.1
  have n1 : r2 i ≠ sz := fun e => hav (.inl e)
  have n2 : r2 i ≠ sz + 1 := fun e => hav (.inr (.inl e))
  refine ⟨⟨?_, ?_, ?_, ?_⟩, fun o => by rw [World.frozen?_setCell]; exact f1 o, by rw [setCell_size]; exact hs, G1.move fun b hb hn => ⟨hn, ?_⟩, G2.store hi hk x⟩
  · rw [cell_of_heap (setCell_other _ _ _ _ _ (Ne.symm n2))]; exact a1
  · rw [cell_of_heap (setCell_other _ _ _ _ _ (Ne.symm n2))]; exact a2
  · rw [cell_of_heap (setCell_other _ _ _ _ _ (Ne.symm n1))]; exact a3
  · rw [cell_of_heap (setCell_other _ _ _ _ _ (Ne.symm n1))]; exact a4
  · exact setCell_other _ _ _ _ _ (fun e => hn (.inr (.inr (.inr ⟨i, hi, e⟩))))
theorem Grids.row1 {wr : World} {sz g1 c1 g2 c2 : Nat} {r1 r2 : Nat → Nat} {n m : Nat} {f : Nat → Nat → Int} {s : Nat → Nat → Bool} (h : Grids wr sz g1 c1 g2 c2 r1 r2 n m f s) {i : Nat} (hi : i < n) : wr.cell? ⟨g1, i, none⟩ = some (.slice (some ⟨r1 i, 0, none⟩) m m) := (h.2.2.2.1.2.2.2 i hi).1
theorem Grids.row2 {wr : World} {sz g1 c1 g2 c2 : Nat} {r1 r2 : Nat → Nat} {n m : Nat} {f : Nat → Nat → Int} {s : Nat → Nat → Bool} (h : Grids wr sz g1 c1 g2 c2 r1 r2 n m f s) {i : Nat} (hi : i < n) : wr.cell? ⟨g2, i, none⟩ = some (.slice (some ⟨r2 i, 0, none⟩) m m) := (h.2.2.2.2.2.2.2 i hi).1
theorem Grids.at1 {wr : World} {sz g1 c1 g2 c2 : Nat} {r1 r2 : Nat → Nat} {n m : Nat} {f : Nat → Nat → Int} {s : Nat → Nat → Bool} (h : Grids wr sz g1 c1 g2 c2 r1 r2 n m f s) {i k : Nat} (hi : i < n) (hk : k < m) : wr.cell? ⟨r1 i, k, none⟩ = some (.int .i64 (f i k)) ∧ wr.frozen? ⟨r1 i, k, none⟩ = false := (h.2.2.2.1.2.2.2 i hi).2.2.2.2.2.2 k hk
theorem Grids.at2 {wr : World} {sz g1 c1 g2 c2 : Nat} {r1 r2 : Nat → Nat} {n m : Nat} {f : Nat → Nat → Int} {s : Nat → Nat → Bool} (h : Grids wr sz g1 c1 g2 c2 r1 r2 n m f s) {i k : Nat} (hi : i < n) (hk : k < m) : wr.cell? ⟨r2 i, k, none⟩ = some (.bool (s i k)) ∧ wr.frozen? ⟨r2 i, k, none⟩ = false := (h.2.2.2.2.2.2.2 i hi).2.2.2.2.2.2 k hk
theorem Grids.ge1 {wr : World} {sz g1 c1 g2 c2 : Nat} {r1 r2 : Nat → Nat} {n m : Nat} {f : Nat → Nat → Int} {s : Nat → Nat → Bool} (h : Grids wr sz g1 c1 g2 c2 r1 r2 n m f s) {i : Nat} (hi : i < n) : sz ≤ r1 i := (h.2.2.2.1.2.2.2 i hi).2.1
theorem Grids.ge2 {wr : World} {sz g1 c1 g2 c2 : Nat} {r1 r2 : Nat → Nat} {n m : Nat} {f : Nat → Nat → Int} {s : Nat → Nat → Bool} (h : Grids wr sz g1 c1 g2 c2 r1 r2 n m f s) {i : Nat} (hi : i < n) : sz ≤ r2 i := (h.2.2.2.2.2.2.2 i hi).2.1

/-- The least cost, as the program reckons it. -/
def cst (N : Int) : List Page → List Page → Int
  | [], [] => 0
  | [], _ :: ys => min N (1 + cst N [] ys)
  | _ :: xs, [] => min N (1 + cst N xs [])
  | x :: xs, y :: ys =>
    if x.number = y.number then
      if x = y then min (min (min (min N (1 + cst N xs (y :: ys))) (1 + cst N (x :: xs) ys)) (cst N xs ys)) (1 + cst N xs ys)
      else min (min (min N (1 + cst N xs (y :: ys))) (1 + cst N (x :: xs) ys)) (1 + cst N xs ys)
    else min (min N (1 + cst N xs (y :: ys))) (1 + cst N (x :: xs) ys)
termination_by xs ys => xs.length + ys.length

theorem cst_nonneg (N : Int) (hN : 0 ≤ N) (xs ys : List Page) : 0 ≤ cst N xs ys := by
  induction xs, ys using cst.induct <;> rw [cst] <;> (try split) <;> (try split) <;> omega
theorem cst_le (N : Int) (hN : 0 ≤ N) (xs ys : List Page) : cst N xs ys ≤ N := by
  induction xs, ys using cst.induct <;> rw [cst] <;> (try split) <;> (try split) <;> omega
theorem cst_len (N : Int) (xs ys : List Page) : cst N xs ys ≤ xs.length + ys.length := by
  induction xs, ys using cst.induct <;> rw [cst] <;> (try split) <;> (try split) <;> simp only [List.length_cons, List.length_nil] at * <;> omega

/-- From place i, k on all is reckoned. -/
def Done (xs ys : List Page) (N : Int) (f : Nat → Nat → Int) (s : Nat → Nat → Bool) (i k : Nat) : Prop :=
  ∀ i2 k2, i2 ≤ xs.length → k2 ≤ ys.length → (i < i2 ∨ (i = i2 ∧ k ≤ k2)) → f i2 k2 = cst N (xs.drop i2) (ys.drop k2) ∧ ∀ (h1 : i2 < xs.length) (h2 : k2 < ys.length), xs[i2].number = ys[k2].number → s i2 k2 = decide (xs[i2] = ys[k2])

theorem Done.step {xs ys : List Page} {N : Int} {f : Nat → Nat → Int} {s s' : Nat → Nat → Bool} {i k : Nat} (h : Done xs ys N f s i (k + 1)) (x : Int) (hx : x = cst N (xs.drop i) (ys.drop k)) (hs : ∀ i2 k2, ¬ (i2 = i ∧ k2 = k) → s' i2 k2 = s i2 k2)
    (hs2 : ∀ (h1 : i < xs.length) (h2 : k < ys.length), xs[i].number = ys[k].number → s' i k = decide (xs[i] = ys[k])) : Done xs ys N (upd f i k x) s' i k := by
  intro i2 k2 h1 h2 h3
  by_cases he : i2 = i ∧ k2 = k
  · obtain ⟨rfl, rfl⟩ := he
    refine ⟨?_, hs2⟩
    simp [upd, hx]
  · have := h i2 k2 h1 h2 (by omega)
    refine ⟨?_, fun q1 q2 q3 => ?_⟩
    · simp only [upd, he, if_false]; exact this.1
    · rw [hs _ _ he]; exact this.2 q1 q2 q3
theorem Done.line {xs ys : List Page} {N : Int} {f : Nat → Nat → Int} {s : Nat → Nat → Bool} {i : Nat} (h : Done xs ys N f s (i + 1) 0) : Done xs ys N f s i (ys.length + 1) :=
  fun i2 k2 h1 h2 h3 => h i2 k2 h1 h2 (by omega)
theorem Done.start (xs ys : List Page) (N : Int) (f : Nat → Nat → Int) (s : Nat → Nat → Bool) : Done xs ys N f s (xs.length + 1) 0 :=
  fun _ _ h1 _ h3 => False.elim (by omega)
theorem drop_nil {α : Type} {l : List α} {i : Nat} (h : ¬ i < l.length) : l.drop i = [] := List.drop_eq_nil_of_le (by omega)
theorem cst_nn {N : Int} {xs ys : List Page} {i k : Nat} (hi : ¬ i < xs.length) (hk : ¬ k < ys.length) : cst N (xs.drop i) (ys.drop k) = 0 := by
  rw [drop_nil hi, drop_nil hk, cst]
theorem cst_nk {N : Int} {xs ys : List Page} {i k : Nat} (hi : ¬ i < xs.length) (hk : k < ys.length) : cst N (xs.drop i) (ys.drop k) = min N (1 + cst N (xs.drop i) (ys.drop (k + 1))) := by
  rw [drop_nil hi, List.drop_eq_getElem_cons hk, cst]
theorem cst_kn {N : Int} {xs ys : List Page} {i k : Nat} (hi : i < xs.length) (hk : ¬ k < ys.length) : cst N (xs.drop i) (ys.drop k) = min N (1 + cst N (xs.drop (i + 1)) (ys.drop k)) := by
  rw [drop_nil hk, List.drop_eq_getElem_cons hi, cst]
theorem cst_kk {N : Int} {xs ys : List Page} {i k : Nat} (hi : i < xs.length) (hk : k < ys.length) : cst N (xs.drop i) (ys.drop k) =
    if xs[i].number = ys[k].number then
      if xs[i] = ys[k] then min (min (min (min N (1 + cst N (xs.drop (i + 1)) (ys.drop k))) (1 + cst N (xs.drop i) (ys.drop (k + 1)))) (cst N (xs.drop (i + 1)) (ys.drop (k + 1)))) (1 + cst N (xs.drop (i + 1)) (ys.drop (k + 1)))
      else min (min (min N (1 + cst N (xs.drop (i + 1)) (ys.drop k))) (1 + cst N (xs.drop i) (ys.drop (k + 1)))) (1 + cst N (xs.drop (i + 1)) (ys.drop (k + 1)))
    else min (min N (1 + cst N (xs.drop (i + 1)) (ys.drop k))) (1 + cst N (xs.drop i) (ys.drop (k + 1))) := by
  rw [List.drop_eq_getElem_cons hi, List.drop_eq_getElem_cons hk, cst]
theorem Done.get {xs ys : List Page} {N : Int} {f : Nat → Nat → Int} {s : Nat → Nat → Bool} {i k i2 k2 : Nat} (h : Done xs ys N f s i k) (hN : 0 ≤ N) (h1 : i2 ≤ xs.length) (h2 : k2 ≤ ys.length) (h3 : i < i2 ∨ (i = i2 ∧ k ≤ k2)) : ∃ y, f i2 k2 = y ∧ y = cst N (xs.drop i2) (ys.drop k2) ∧ 0 ≤ y ∧ y ≤ N := by
  have := (h i2 k2 h1 h2 h3).1
  exact ⟨_, rfl, this, by rw [this]; exact cst_nonneg _ hN _ _, by rw [this]; exact cst_le _ hN _ _⟩
end Go.Proofs.Ytfejkaemledipaa
