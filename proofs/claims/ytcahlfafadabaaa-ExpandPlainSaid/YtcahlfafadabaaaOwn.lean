/- Rows of a call's own: built by append, read as lists. -/
import Derived.Test.YtcahlfafadabaaaRep
import Derived.OwnWalk
import Derived.Maps.AppendAt
import Derived.StillTailTactics
import Derived.Deep.AppendLies
import Derived.Deep.RegionHeld3
namespace Go.Proofs.Ytcahlfafadabaaa
open Go.RowKit

/-- The block of a slice, if it has one. -/
def blk (v : Value) : List Nat := match v.ownBlock with
  | some b => [b]
  | none => []

/-- v is a row of the call's own (blocks from base on) that holds xs; what the elements lead to lies elsewhere. -/
def OwnS {α : Type} (d : Rp α) (e : TypeId) (w : World) (base : Nat) (L : List Nat) (v : Value) (xs : List α) : Prop :=
  ∃ cells, w.ownsRow base e d.sz v xs.length cells ∧ (∀ b, v.ownBlock = some b → b ∉ L) ∧ ∀ i x, xs[i]? = some x → d.K w (blk v ++ L) x ((cells.drop (i * d.sz)).take d.sz)

theorem OwnS.nil {α : Type} (d : Rp α) (e : TypeId) (w : World) (base : Nat) (L : List Nat) : OwnS d e w base L (.slice none 0 0) [] :=
  ⟨[], ⟨by simp, .inl ⟨rfl, rfl⟩⟩, fun b h => by simp [Value.ownBlock] at h, fun i x h => by simp at h⟩

theorem own_block {w : World} {base : Nat} {e : TypeId} {size n : Nat} {v : Value} {cells : List Value} (h : w.ownsRow base e size v n cells) {b : Nat} (hb : v.ownBlock = some b) : base ≤ b ∧ b < w.heap.size := by
  obtain ⟨_, h | ⟨g, cap, cur, rfl, hg, hh, _⟩⟩ := h
  · obtain ⟨rfl, _⟩ := h; simp [Value.ownBlock] at hb
  · simp [Value.ownBlock] at hb
    subst hb
    exact ⟨hg, (Array.getElem?_eq_some_iff.1 hh).1⟩

theorem own_keep {w w' : World} {base : Nat} {e : TypeId} {size n : Nat} {v : Value} {cells : List Value} (h : w.ownsRow base e size v n cells) (hk : ∀ b, v.ownBlock = some b → w'.heap[b]? = w.heap[b]?) : w'.ownsRow base e size v n cells := by
  obtain ⟨hl, h | ⟨g, cap, cur, rfl, hg, hh, hr⟩⟩ := h
  · exact ⟨hl, .inl h⟩
  · exact ⟨hl, .inr ⟨g, cap, cur, rfl, hg, (hk g rfl).trans hh, hr⟩⟩

theorem OwnS.move {α : Type} {d : Rp α} {e : TypeId} {w w' : World} {base : Nat} {L L' : List Nat} {v : Value} {xs : List α} (hm : ∀ b, b < w.heap.size → b ∉ L → b ∉ L' ∧ w'.heap[b]? = w.heap[b]?) (h : OwnS d e w base L v xs) : OwnS d e w' base L' v xs := by
  obtain ⟨cells, ho, hL, hk⟩ := h
  refine ⟨cells, own_keep ho fun b hb => (hm b (own_block ho hb).2 (hL b hb)).2, fun b hb => (hm b (own_block ho hb).2 (hL b hb)).1, fun i x hi => d.move (fun b hb hn => ?_) (hk i x hi)⟩
  simp only [List.mem_append, not_or] at hn ⊢
  exact ⟨⟨hn.1, (hm b hb hn.2).1⟩, (hm b hb hn.2).2⟩

theorem OwnS.below {α : Type} {d : Rp α} {e : TypeId} {w w' : World} {base : Nat} {L : List Nat} {v : Value} {xs : List α} (h : OwnS d e w base L v xs) (hb : Below w.heap.size w w') : OwnS d e w' base L v xs :=
  h.move (move_below hb (Nat.le_refl _))

theorem OwnS.val {α : Type} {d : Rp α} {e : TypeId} {w : World} {base : Nat} {L : List Nat} {v : Value} {xs : List α} (h : OwnS d e w base L v xs) : ∃ A c, v = .slice A xs.length c := by
  obtain ⟨cells, ⟨_, ⟨rfl, h⟩ | ⟨g, cap, cur, rfl, _⟩⟩, _⟩ := h
  · exact ⟨none, 0, by rw [h]⟩
  · exact ⟨_, _, rfl⟩

theorem OwnS.max {α : Type} {d : Rp α} {e : TypeId} {w : World} {base : Nat} {L : List Nat} {v : Value} {xs : List α} (h : OwnS d e w base L v xs) : xs.length ≤ 9223372036854775807 := by
  obtain ⟨cells, ⟨_, ⟨_, h⟩ | ⟨g, cap, cur, rfl, _, _, h1, h2, _⟩⟩, _⟩ := h
  · omega
  · unfold maxLen at h2; omega

theorem OwnS.blk_ge {α : Type} {d : Rp α} {e : TypeId} {w : World} {base : Nat} {L : List Nat} {v : Value} {xs : List α} (h : OwnS d e w base L v xs) : ∀ b ∈ blk v, base ≤ b := by
  obtain ⟨cells, ho, _⟩ := h
  intro b hb
  unfold blk at hb
  split at hb
  · rename_i c hc; simp at hb; subst hb; exact (own_block ho hc).1
  · cases hb
/-- What is owned reads. -/
theorem OwnS.sl {α : Type} {d : Rp α} {e : TypeId} {w : World} {base : Nat} {L : List Nat} {v : Value} {xs : List α} (h : OwnS d e w base L v xs) : Sl d w L v xs := by
  have hmax := h.max
  obtain ⟨cells, ho, hL, hk⟩ := h
  have ho' := ho
  obtain ⟨hl, ⟨rfl, h0⟩ | ⟨g, cap, cur, rfl, hg, hh, h1, h2, h3, h4⟩⟩ := ho'
  · have : xs = [] := List.length_eq_zero_iff.1 h0
    subst this
    exact ⟨none, 0, rfl, Nat.le_refl _, hmax, fun _ => rfl, fun h => absurd rfl h⟩
  · refine ⟨_, cap, rfl, h1, hmax, (fun h => by cases h), fun _ => ⟨g, 0, rfl, (Array.getElem?_eq_some_iff.1 hh).1, hL g rfl, fun i x hi => ⟨_, d.move (L' := L) (fun b hb hn => ?_) (hk i x hi), fun j u hj => ?_⟩⟩⟩
    · simp only [List.mem_append, not_or] at hn
      exact ⟨hn.2, rfl⟩
    · rw [cell_of_row w g (0 + i * d.sz + j) cur e (0, 0) hh]
      rw [List.getElem?_take] at hj
      split at hj
      · rename_i hjs
        rw [List.getElem?_drop] at hj
        rw [← h4, List.getElem?_take] at hj
        split at hj
        · rw [Nat.zero_add, ← Array.getElem?_toList]; exact hj
        · cases hj
      · cases hj

/-- One more element. -/
theorem OwnS.push {α : Type} {d : Rp α} {e : TypeId} {w w1 : World} {base : Nat} {L : List Nat} {v v' : Value} {xs : List α} {y : α} {cells news : List Value}
    (ho : w.ownsRow base e d.sz v xs.length cells) (hL : ∀ b, v.ownBlock = some b → b ∉ L) (hk : ∀ i x, xs[i]? = some x → d.K w (blk v ++ L) x ((cells.drop (i * d.sz)).take d.sz))
    (hy : d.K w (blk v ++ L) y news) (ho' : w1.ownsRow base e d.sz v' (xs.length + 1) (cells ++ news)) (hg : w.grownBy w1 v.ownBlock) (hat : v'.ownBlock = v.ownBlock ∨ v'.ownBlock = some w.heap.size) (hb : ∀ b ∈ L, b < w.heap.size) :
    OwnS d e w1 base L v' (xs ++ [y]) := by
  have hcl : cells.length = xs.length * d.sz := ho.1
  have hm : ∀ b, b < w.heap.size → b ∉ blk v ++ L → b ∉ blk v' ++ L ∧ w1.heap[b]? = w.heap[b]? := by
    intro b hb' hn
    simp only [List.mem_append, not_or] at hn ⊢
    have hne : some b ≠ v.ownBlock := by
      intro e; exact hn.1 (by unfold blk; rw [← e]; simp)
    refine ⟨⟨?_, hn.2⟩, hg.block b hb' hne⟩
    rcases hat with h | h
    · unfold blk; rw [h]; exact hn.1
    · unfold blk; rw [h]; simp; omega
  refine ⟨cells ++ news, by simpa using ho', fun b hb' hn => ?_, fun i x hi => ?_⟩
  · rcases hat with h | h
    · exact hL b (h ▸ hb') hn
    · have := hb b hn
      rw [h] at hb'; simp at hb'; omega
  · rcases Nat.lt_or_ge i xs.length with hlt | hge
    · rw [List.getElem?_append_left hlt] at hi
      have hk' := d.move hm (hk i x hi)
      have hls := d.len hk'
      have : i * d.sz + d.sz ≤ cells.length := by rw [hcl, ← Nat.succ_mul]; exact Nat.mul_le_mul_right _ hlt
      rw [List.drop_append_of_le_length (by omega), List.take_append_of_le_length (by rw [List.length_drop]; omega)]
      exact hk'
    · have hie : i = xs.length := by
        rcases Nat.lt_or_ge xs.length i with h | h
        · rw [List.getElem?_eq_none (by simp; omega)] at hi; cases hi
        · omega
      subst hie
      rw [List.getElem?_append_right (Nat.le_refl _)] at hi
      simp at hi
      subst hi
      rw [← hcl, List.drop_left, ← d.len hy, List.take_length]
      exact d.move hm hy

/-- append(s, y), at the operation. -/
theorem wpList_push {P : Program} {ops : Array Oper} {rest : List Oper} {o : Oper} {a : Act} {Q : Exit → Act → World → Prop} {W : World} {α : Type} (d : Rp α) (hgd : o.guard = none) (s x : Operand) (t : TypeId)
    (ho : o.op = .call { callee := .builtin .append, args := #[s, x], argTypes := #[t, t] }) (base : Nat) (e : TypeId) (z : Value) (bytes : Nat) (L : List Nat) (xs : List α) (y : α) (ycells : List Value) (g : Nat)
    (ht : P.underlying t = some (.slice e)) (hinfo : (P.info? e).map (fun i => (i.zero, i.size, i.bytes)) = some (some z, d.sz, bytes)) (hzs : z.cells.size = d.sz) (hsz : 0 < d.sz)
    (hO : OwnS d e W base L (a.eval s) xs) (hx : a.eval x = .slice (some ⟨g, 0, none⟩) 1 1) (hc : ∀ j u, ycells[j]? = some u → W.cell? ⟨g, j, none⟩ = some u) (hy : d.K W (blk (a.eval s) ++ L) y ycells)
    (hlen : (xs.length + 1) * bytes ≤ 140737488355328) (h63 : xs.length + 1 ≤ 9223372036854775807) (hbase : base ≤ W.heap.size) (hL : ∀ b ∈ L, b < W.heap.size)
    (h : ∀ v' w', OwnS d e w' base L v' (xs ++ [y]) → W.grownBy w' (a.eval s).ownBlock → (v'.ownBlock = (a.eval s).ownBlock ∨ v'.ownBlock = some W.heap.size) → wpList P ops Q rest (a.put o.dst v') w') : wpList P ops Q (o :: rest) a W := by
  obtain ⟨i0, hi, hz0, hz1, hz2⟩ := info_parts hinfo
  obtain ⟨cells, hown, hLb, hk⟩ := hO
  refine wpList_append_own_at W hgd s x t ho base e i0 z d.sz bytes ht hi hz0 hz1 hz2 hzs hsz (a.eval s) xs.length cells rfl hown ⟨g, 0, none⟩ 1 1 ycells hx (by rw [d.len hy, Nat.one_mul]) ?_ (d.one hy) h63 hlen hbase ?_
  · intro j u hj
    have : (⟨g, 0, none⟩ : Addr).add j = ⟨g, j, none⟩ := by unfold Addr.add; split <;> simp_all
    rw [this]; exact hc j u hj
  · intro v' w1 hown' hgrow _ hat
    exact h v' w1 (OwnS.push hown hLb hk hy hown' hgrow hat hL) hgrow hat

/-- The same in a region that draws its order; what comes out is written out. -/
theorem step_push {P : Program} {ops : Array Oper} {o : Oper} {a : Act} {K : Act → World → Prop} {Q : Exit → Act → World → Prop} {E : Prop} {W : World} {α : Type} (d : Rp α) (hgd : o.guard = none) (s x : Operand) (t : TypeId)
    (ho : o.op = .call { callee := .builtin .append, args := #[s, x], argTypes := #[t, t] }) (base : Nat) (e : TypeId) (z : Value) (bytes : Nat) (L : List Nat) (xs : List α) (y : α) (ycells : List Value) (v : Value) (g : Nat)
    (ht : P.underlying t = some (.slice e)) (hinfo : (P.info? e).map (fun i => (i.zero, i.size, i.bytes)) = some (some z, d.sz, bytes)) (hzs : z.cells.size = d.sz) (hsz : 0 < d.sz)
    (hs : a.eval s = v) (hO : OwnS d e W base L v xs) (hx : a.eval x = .slice (some ⟨g, 0, none⟩) 1 1) (hc : ∀ j u, ycells[j]? = some u → W.cell? ⟨g, j, none⟩ = some u) (hy : d.K W (blk v ++ L) y ycells)
    (hlen : (xs.length + 1) * bytes ≤ 140737488355328) (h63 : xs.length + 1 ≤ 9223372036854775807) (hbase : base ≤ W.heap.size) (hL : ∀ b ∈ L, b < W.heap.size)
    (h : ∀ g cap w', OwnS d e w' base L (.slice (some ⟨g, 0, none⟩) (xs.length + 1) cap) (xs ++ [y]) → W.grownBy w' v.ownBlock → (∀ B w0, Below B w0 W → B ≤ base → Below B w0 w') → (v.ownBlock = some g ∨ g = W.heap.size) → g < w'.heap.size → K (a.put o.dst (.slice (some ⟨g, 0, none⟩) (xs.length + 1) cap)) w') :
    if Region.wanted o (yielded ops a.tmps) = true then Oper.wp P o a W K Q else E := by
  obtain ⟨i0, hi, hz0, hz1, hz2⟩ := info_parts hinfo
  obtain ⟨cells, hown, hLb, hk⟩ := hO
  refine step_append_lies W hgd s x t ho base e i0 z d.sz bytes ht hi hz0 hz1 hz2 hzs hsz v xs.length cells hs hown ⟨g, 0, none⟩ 1 1 ycells hx (by rw [d.len hy, Nat.one_mul]) ?_ (d.one hy) (by omega) h63 hlen hbase _ rfl ?_
  · intro j u hj
    have : (⟨g, 0, none⟩ : Addr).add j = ⟨g, j, none⟩ := by unfold Addr.add; split <;> simp_all
    rw [this]; exact hc j u hj
  · intro g' cap w1 hown' hgrow hat hlt
    refine h g' cap w1 (OwnS.push hown hLb hk hy hown' hgrow ?_ hL) hgrow (fun B w0 hB hBb => hB.grown hgrow (Nat.le_trans hBb hbase) fun k hk => Nat.le_trans hBb (own_block hown hk).1) hat hlt
    rcases hat with h | h
    · exact .inl h.symm
    · exact .inr (by rw [h]; rfl)

theorem OwnS.heap {α : Type} {d : Rp α} {e : TypeId} {w : World} {base : Nat} {L : List Nat} {ad : Addr} {n c : Nat} {xs : List α} (h : OwnS d e w base L (.slice (some ad) n c) xs) :
    ∃ g cur, ad = ⟨g, 0, none⟩ ∧ base ≤ g ∧ g ∉ L ∧ n = xs.length ∧ w.heap[g]? = some (.cells cur e (0, 0)) ∧ xs.length * d.sz ≤ cur.size := by
  obtain ⟨cells, ⟨hl, ⟨h, _⟩ | ⟨g, cap, cur, hv, hg, hh, h1, h2, h3, h4⟩⟩, hL, hk⟩ := h
  · cases h
  · cases hv
    exact ⟨g, cur, rfl, hg, hL g rfl, rfl, hh, by rw [h3]; exact Nat.mul_le_mul_right _ h1⟩

theorem OwnS.frozen {α : Type} {d : Rp α} {e : TypeId} {w : World} {base : Nat} {L : List Nat} {g o n c : Nat} {xs : List α} (h : OwnS d e w base L (.slice (some ⟨g, 0, none⟩) n c) xs) : w.frozen? ⟨g, o, none⟩ = false := by
  obtain ⟨g', cur, e', _, _, _, hh, _⟩ := h.heap
  cases e'
  simp [World.frozen?, hh]

theorem setCell_heap (w : World) (g o : Nat) (u : Value) (cur : Array Value) (e : TypeId) (h : w.heap[g]? = some (.cells cur e (0, 0))) : (w.setCell ⟨g, o, none⟩ u).heap[g]? = some (.cells (cur.setIfInBounds o u) e (0, 0)) := by
  simp only [World.setCell]
  rw [Array.getElem?_modify, if_pos rfl, h]
  rfl
theorem setCell_other (w : World) (g o : Nat) (u : Value) (b : Nat) (h : b ≠ g) : (w.setCell ⟨g, o, none⟩ u).heap[b]? = w.heap[b]? := by
  simp only [World.setCell]
  rw [Array.getElem?_modify, if_neg (Ne.symm h)]
theorem setCell_size (w : World) (p : Addr) (u : Value) : (w.setCell p u).heap.size = w.heap.size := by simp [World.setCell]

theorem OwnS.addr {α : Type} {d : Rp α} {e : TypeId} {w : World} {base : Nat} {L : List Nat} {A : Option Addr} {n c : Nat} {xs : List α} (h : OwnS d e w base L (.slice A n c) xs) (hne : 0 < xs.length) :
    ∃ g, A = some ⟨g, 0, none⟩ ∧ base ≤ g ∧ g < w.heap.size := by
  have h' := h
  obtain ⟨cells, ⟨hl, ⟨h, h0⟩ | ⟨g, cap, cur, hv, hg, hh, h1, h2, h3, h4⟩⟩, hL, hk⟩ := h
  · omega
  · cases hv
    exact ⟨g, rfl, hg, (Array.getElem?_eq_some_iff.1 hh).1⟩

theorem OwnS.get {α : Type} {d : Rp α} {e : TypeId} {w : World} {base : Nat} {L : List Nat} {g n c : Nat} {xs : List α} (h : OwnS d e w base L (.slice (some ⟨g, 0, none⟩) n c) xs) {i : Nat} (hi : i < xs.length) :
    ∃ cs, d.K w (g :: L) xs[i] cs ∧ ∀ j u, cs[j]? = some u → w.cell? ⟨g, i * d.sz + j, none⟩ = some u := by
  obtain ⟨cells, ⟨hl, ⟨h, _⟩ | ⟨g', cap, cur, hv, hg, hh, h1, h2, h3, h4⟩⟩, hL, hk⟩ := h
  · cases h
  cases hv
  refine ⟨_, hk i xs[i] (List.getElem?_eq_getElem hi), fun j u hj => ?_⟩
  rw [cell_of_row w g (i * d.sz + j) cur e (0, 0) hh]
  rw [List.getElem?_take] at hj
  split at hj
  · rw [List.getElem?_drop] at hj
    rw [← h4, List.getElem?_take] at hj
    split at hj
    · rw [← Array.getElem?_toList]; exact hj
    · cases hj
  · cases hj

/-- One cell of an element is written. -/
theorem OwnS.setCell {α : Type} {d : Rp α} {e : TypeId} {w : World} {base : Nat} {L : List Nat} {g n c : Nat} {xs : List α} (h : OwnS d e w base L (.slice (some ⟨g, 0, none⟩) n c) xs) {i j : Nat} (hi : i < xs.length) (hj : j < d.sz) (u : Value) (x' : α)
    (hK : ∀ cs, d.K w (g :: L) xs[i] cs → d.K w (g :: L) x' (cs.set j u)) : OwnS d e (w.setCell ⟨g, i * d.sz + j, none⟩ u) base L (.slice (some ⟨g, 0, none⟩) n c) (xs.set i x') := by
  obtain ⟨cells, ⟨hl, ⟨h, _⟩ | ⟨g', cap, cur, hv, hg, hh, h1, h2, h3, h4⟩⟩, hL, hk⟩ := h
  · cases h
  cases hv
  have hb : blk (.slice (some ⟨g, 0, none⟩) xs.length c) = [g] := rfl
  rw [hb] at hk
  have hij : i * d.sz + j < xs.length * d.sz := by
    have : i * d.sz + d.sz ≤ xs.length * d.sz := by rw [← Nat.succ_mul]; exact Nat.mul_le_mul_right _ hi
    omega
  have hcur : xs.length * d.sz ≤ cur.size := by rw [h3]; exact Nat.mul_le_mul_right _ h1
  have hm : ∀ b, b < w.heap.size → b ∉ g :: L → b ∉ g :: L ∧ (w.setCell ⟨g, i * d.sz + j, none⟩ u).heap[b]? = w.heap[b]? :=
    fun b _ hn => ⟨hn, setCell_other w g _ u b (fun e => hn (by rw [e]; exact List.mem_cons_self))⟩
  refine ⟨cells.set (i * d.sz + j) u, ⟨by simpa using hl, .inr ⟨g, c, cur.setIfInBounds (i * d.sz + j) u, by simp, hg, setCell_heap w g _ u cur e hh, by simpa using h1, h2, by simpa using h3, ?_⟩⟩, hL, fun k x hkx => ?_⟩
  · rw [Array.toList_setIfInBounds, List.length_set, List.take_set, h4]
  · rw [show (blk (.slice (some ⟨g, 0, none⟩) xs.length c) ++ L) = g :: L from rfl]
    rw [List.getElem?_set] at hkx
    split at hkx
    · rename_i hik
      subst hik
      simp only [Option.some.injEq] at hkx
      subst hkx
      have := d.move hm (hK _ (hk i xs[i] (List.getElem?_eq_getElem hi)))
      rw [List.drop_set, if_neg (by omega), List.take_set, Nat.add_sub_cancel_left]
      exact this
    · rename_i hik
      have hk' := d.move hm (hk k x hkx)
      have hkl : k < xs.length := by
        rcases Nat.lt_or_ge k xs.length with h | h
        · exact h
        · rw [List.getElem?_eq_none h] at hkx; cases hkx
      rw [List.drop_set]
      split
      · exact hk'
      · rename_i hge
        rw [List.take_set_of_le]
        · exact hk'
        have : k * d.sz + d.sz ≤ i * d.sz ∨ i * d.sz + d.sz ≤ k * d.sz := by
          rcases Nat.lt_or_gt_of_ne hik with h | h
          · exact .inr (by rw [← Nat.succ_mul]; exact Nat.mul_le_mul_right _ h)
          · exact .inl (by rw [← Nat.succ_mul]; exact Nat.mul_le_mul_right _ h)
        omega

/-- A slice's cells, one behind the other. -/
theorem Sl.flat {α : Type} {d : Rp α} {w : World} {L : List Nat} {ad : Addr} {n c : Nat} {xs : List α} (h : Sl d w L (.slice (some ad) n c) xs) :
    ∃ news : List Value, news.length = xs.length * d.sz ∧ (∀ j u, news[j]? = some u → w.cell? (ad.add j) = some u) ∧ (∀ u ∈ news, u.oneCell' = true) ∧ ∀ i x, xs[i]? = some x → d.K w L x ((news.drop (i * d.sz)).take d.sz) := by
  obtain ⟨A, c', e, _, _, _, h3⟩ := h
  cases e
  by_cases hne : xs = []
  · subst hne
    exact ⟨[], by simp, (fun j u hj => by simp at hj), (fun u hu => by cases hu), fun i x hi => by simp at hi⟩
  obtain ⟨b, o, e, _, _, hx⟩ := h3 hne
  cases e
  have key : ∀ m, m ≤ xs.length → ∃ news : List Value, news.length = m * d.sz ∧ (∀ j u, news[j]? = some u → w.cell? ⟨b, o + j, none⟩ = some u) ∧ (∀ u ∈ news, u.oneCell' = true) ∧ ∀ i x, i < m → xs[i]? = some x → d.K w L x ((news.drop (i * d.sz)).take d.sz) := by
    intro m
    induction m with
    | zero => exact fun _ => ⟨[], by simp, (fun j u hj => by simp at hj), (fun u hu => by cases hu), fun i x hi => by omega⟩
    | succ m ih =>
      intro hm
      obtain ⟨news, hl, hc, h1, hk⟩ := ih (by omega)
      obtain ⟨cs, hkm, hcm⟩ := hx m xs[m] (List.getElem?_eq_getElem (by omega))
      refine ⟨news ++ cs, by rw [List.length_append, hl, d.len hkm, Nat.succ_mul], fun j u hj => ?_, fun u hu => ?_, fun i x hi hxi => ?_⟩
      · rcases Nat.lt_or_ge j news.length with hlt | hge
        · rw [List.getElem?_append_left hlt] at hj; exact hc j u hj
        · rw [List.getElem?_append_right hge] at hj
          have := hcm _ u hj
          rw [show o + j = o + m * d.sz + (j - news.length) from by omega]
          exact this
      · rw [List.mem_append] at hu
        rcases hu with hu | hu
        · exact h1 u hu
        · exact d.one hkm u hu
      · rcases Nat.lt_or_ge i m with hlt | hge
        · have : i * d.sz + d.sz ≤ news.length := by rw [hl, ← Nat.succ_mul]; exact Nat.mul_le_mul_right _ hlt
          rw [List.drop_append_of_le_length (by omega), List.take_append_of_le_length (by rw [List.length_drop]; omega)]
          exact hk i x hlt hxi
        · have hie : i = m := by omega
          subst hie
          have hxe : xs[i] = x := by rw [List.getElem?_eq_getElem (by omega)] at hxi; exact Option.some.inj hxi
          rw [← hl, List.drop_left, ← d.len hkm, List.take_length, ← hxe]
          exact hkm
  obtain ⟨news, hl, hc, h1, hk⟩ := key xs.length (Nat.le_refl _)
  refine ⟨news, hl, fun j u hj => ?_, h1, fun i x hi => hk i x (by rcases Nat.lt_or_ge i xs.length with h | h; exact h; rw [List.getElem?_eq_none h] at hi; cases hi) hi⟩
  have : (⟨b, o, none⟩ : Addr).add j = ⟨b, o + j, none⟩ := by unfold Addr.add; split <;> simp_all
  rw [this]; exact hc j u hj

/-- Many more elements. -/
theorem OwnS.pushAll {α : Type} {d : Rp α} {e : TypeId} {w w1 : World} {base : Nat} {L : List Nat} {v v' : Value} {xs ys : List α} {cells news : List Value}
    (ho : w.ownsRow base e d.sz v xs.length cells) (hL : ∀ b, v.ownBlock = some b → b ∉ L) (hk : ∀ i x, xs[i]? = some x → d.K w (blk v ++ L) x ((cells.drop (i * d.sz)).take d.sz))
    (hy : ∀ i x, ys[i]? = some x → d.K w (blk v ++ L) x ((news.drop (i * d.sz)).take d.sz)) (ho' : w1.ownsRow base e d.sz v' (xs.length + ys.length) (cells ++ news)) (hg : w.grownBy w1 v.ownBlock) (hat : v'.ownBlock = v.ownBlock ∨ v'.ownBlock = some w.heap.size) (hb : ∀ b ∈ L, b < w.heap.size) :
    OwnS d e w1 base L v' (xs ++ ys) := by
  have hcl : cells.length = xs.length * d.sz := ho.1
  have hm : ∀ b, b < w.heap.size → b ∉ blk v ++ L → b ∉ blk v' ++ L ∧ w1.heap[b]? = w.heap[b]? := by
    intro b hb' hn
    simp only [List.mem_append, not_or] at hn ⊢
    have hne : some b ≠ v.ownBlock := by
      intro e; exact hn.1 (by unfold blk; rw [← e]; simp)
    refine ⟨⟨?_, hn.2⟩, hg.block b hb' hne⟩
    rcases hat with h | h
    · unfold blk; rw [h]; exact hn.1
    · unfold blk; rw [h]; simp; omega
  refine ⟨cells ++ news, by simpa using ho', fun b hb' hn => ?_, fun i x hi => ?_⟩
  · rcases hat with h | h
    · exact hL b (h ▸ hb') hn
    · have := hb b hn
      rw [h] at hb'; simp at hb'; omega
  · rcases Nat.lt_or_ge i xs.length with hlt | hge
    · rw [List.getElem?_append_left hlt] at hi
      have : i * d.sz + d.sz ≤ cells.length := by rw [hcl, ← Nat.succ_mul]; exact Nat.mul_le_mul_right _ hlt
      rw [List.drop_append_of_le_length (by omega), List.take_append_of_le_length (by rw [List.length_drop]; omega)]
      exact d.move hm (hk i x hi)
    · rw [List.getElem?_append_right hge] at hi
      have := d.move hm (hy _ x hi)
      have e1 : i * d.sz = cells.length + (i - xs.length) * d.sz := by rw [hcl, ← Nat.add_mul, Nat.add_sub_cancel' hge]
      rw [e1, List.drop_append]
      simpa [List.drop_eq_nil_of_le (show cells.length ≤ cells.length + (i - xs.length) * d.sz from Nat.le_add_right _ _)] using this

/-- append(s, ys...): what the builtin does. -/
theorem run_pushAll {P : Program} {W : World} {α : Type} (d : Rp α) (t ty : TypeId) (base : Nat) (e : TypeId) (z : Value) (bytes : Nat) (L : List Nat) (xs ys : List α) (v sv : Value)
    (ht : P.underlying t = some (.slice e)) (hinfo : (P.info? e).map (fun i => (i.zero, i.size, i.bytes)) = some (some z, d.sz, bytes)) (hzs : z.cells.size = d.sz) (hsz : 0 < d.sz)
    (hO : OwnS d e W base L v xs) (hy : Sl d W (blk v ++ L) sv ys)
    (hlen : (xs.length + ys.length) * bytes ≤ 140737488355328) (h63 : xs.length + ys.length ≤ 9223372036854775807) (hbase : base ≤ W.heap.size) (hL : ∀ b ∈ L, b < W.heap.size) :
    ∃ v' w', (Builtin.append_ #[t, t] ty #[v, sv]).run P W = .ok v' w' ∧ OwnS d e w' base L v' (xs ++ ys) ∧ W.grownBy w' v.ownBlock ∧ (∀ B w0, Below B w0 W → B ≤ base → Below B w0 w') ∧ (v'.ownBlock = v.ownBlock ∨ v'.ownBlock = some W.heap.size) := by
  obtain ⟨i0, hi, hz0, hz1, hz2⟩ := info_parts hinfo
  have hO' := hO
  obtain ⟨cells, hown, hLb, hk⟩ := hO
  have hy' := hy
  obtain ⟨A, c, rfl, hc1, hc2, hc0, hc3⟩ := hy
  cases A with
  | none =>
    obtain rfl := hc0 rfl
    have h0 : ys = [] := List.length_eq_zero_iff.1 (by omega)
    subst h0
    have hrun := run_append_owned_none (P := P) (w := W) base t ty e i0 d.sz ht hi v xs.length cells hown
    exact ⟨v, W, hrun, by simpa using hO', ⟨rfl, rfl, rfl, Nat.le_refl _, fun _ _ _ => rfl⟩, fun B w0 h _ => h, .inl rfl⟩
  | some ad =>
    obtain ⟨news, hnl, hnc, hn1, hnk⟩ := hy'.flat
    obtain ⟨v', w', hr, h2, h3, _, h5⟩ := run_append_own_at (P := P) W base t ty e i0 z d.sz bytes ht hi hz0 hz1 hz2 hzs hsz v xs.length cells hown ad ys.length c news hnl hnc hn1 h63 hlen hbase
    exact ⟨v', w', hr, OwnS.pushAll hown hLb hk hnk h2 h3 h5 hL, h3, fun B w0 hB hBb => hB.grown h3 (Nat.le_trans hBb hbase) fun k hk => Nat.le_trans hBb (own_block hown hk).1, h5⟩

theorem wp_pushAll {P : Program} {o : Oper} {a : Act} {K : Act → World → Prop} {Q : Exit → Act → World → Prop} {W : World} {α : Type} (d : Rp α) (s x : Operand) (t : TypeId)
    (ho : o.op = .call { callee := .builtin .append, args := #[s, x], argTypes := #[t, t] }) (base : Nat) (e : TypeId) (z : Value) (bytes : Nat) (L : List Nat) (xs ys : List α) (v sv : Value)
    (ht : P.underlying t = some (.slice e)) (hinfo : (P.info? e).map (fun i => (i.zero, i.size, i.bytes)) = some (some z, d.sz, bytes)) (hzs : z.cells.size = d.sz) (hsz : 0 < d.sz)
    (hs : a.eval s = v) (hO : OwnS d e W base L v xs) (hx : a.eval x = sv) (hy : Sl d W (blk v ++ L) sv ys)
    (hlen : (xs.length + ys.length) * bytes ≤ 140737488355328) (h63 : xs.length + ys.length ≤ 9223372036854775807) (hbase : base ≤ W.heap.size) (hL : ∀ b ∈ L, b < W.heap.size)
    (h : ∀ A c w', OwnS d e w' base L (.slice A (xs.length + ys.length) c) (xs ++ ys) → W.grownBy w' v.ownBlock → (∀ B w0, Below B w0 W → B ≤ base → Below B w0 w') → ((Value.slice A (xs.length + ys.length) c).ownBlock = v.ownBlock ∨ (Value.slice A (xs.length + ys.length) c).ownBlock = some W.heap.size) → K (a.put o.dst (.slice A (xs.length + ys.length) c)) w') : Oper.wp P o a W K Q := by
  obtain ⟨v', w', hr, h1, h2, h3, h4⟩ := run_pushAll (P := P) d t o.type base e z bytes L xs ys v sv ht hinfo hzs hsz hO hy hlen h63 hbase hL
  obtain ⟨A, c, e'⟩ := h1.val
  rw [List.length_append] at e'
  subst e'
  unfold Oper.wp execOp
  simp only [ho, resolve, invoke, builtin, Sem.run_bind, Sem.run_pure, Result.andThen_ok, List.map_toArray, List.map_cons, List.map_nil, hs, hx, hr]
  exact h _ _ _ h1 h2 h3 h4
theorem wpList_pushAll {P : Program} {ops : Array Oper} {rest : List Oper} {o : Oper} {a : Act} {Q : Exit → Act → World → Prop} {W : World} {α : Type} (d : Rp α) (hgd : o.guard = none) (s x : Operand) (t : TypeId)
    (ho : o.op = .call { callee := .builtin .append, args := #[s, x], argTypes := #[t, t] }) (base : Nat) (e : TypeId) (z : Value) (bytes : Nat) (L : List Nat) (xs ys : List α) (v sv : Value)
    (ht : P.underlying t = some (.slice e)) (hinfo : (P.info? e).map (fun i => (i.zero, i.size, i.bytes)) = some (some z, d.sz, bytes)) (hzs : z.cells.size = d.sz) (hsz : 0 < d.sz)
    (hs : a.eval s = v) (hO : OwnS d e W base L v xs) (hx : a.eval x = sv) (hy : Sl d W (blk v ++ L) sv ys)
    (hlen : (xs.length + ys.length) * bytes ≤ 140737488355328) (h63 : xs.length + ys.length ≤ 9223372036854775807) (hbase : base ≤ W.heap.size) (hL : ∀ b ∈ L, b < W.heap.size)
    (h : ∀ A c w', OwnS d e w' base L (.slice A (xs.length + ys.length) c) (xs ++ ys) → W.grownBy w' v.ownBlock → (∀ B w0, Below B w0 W → B ≤ base → Below B w0 w') → ((Value.slice A (xs.length + ys.length) c).ownBlock = v.ownBlock ∨ (Value.slice A (xs.length + ys.length) c).ownBlock = some W.heap.size) → wpList P ops Q rest (a.put o.dst (.slice A (xs.length + ys.length) c)) w') : wpList P ops Q (o :: rest) a W :=
  wpList_plain hgd fun _ hK => wp_pushAll d s x t ho base e z bytes L xs ys v sv ht hinfo hzs hsz hs hO hx hy hlen h63 hbase hL fun A c w' g1 g2 g3 g4 => hK _ _ (h A c w' g1 g2 g3 g4)
theorem step_pushAll {P : Program} {ops : Array Oper} {o : Oper} {a : Act} {K : Act → World → Prop} {Q : Exit → Act → World → Prop} {E : Prop} {W : World} {α : Type} (d : Rp α) (hgd : o.guard = none) (s x : Operand) (t : TypeId)
    (ho : o.op = .call { callee := .builtin .append, args := #[s, x], argTypes := #[t, t] }) (base : Nat) (e : TypeId) (z : Value) (bytes : Nat) (L : List Nat) (xs ys : List α) (v sv : Value)
    (ht : P.underlying t = some (.slice e)) (hinfo : (P.info? e).map (fun i => (i.zero, i.size, i.bytes)) = some (some z, d.sz, bytes)) (hzs : z.cells.size = d.sz) (hsz : 0 < d.sz)
    (hs : a.eval s = v) (hO : OwnS d e W base L v xs) (hx : a.eval x = sv) (hy : Sl d W (blk v ++ L) sv ys)
    (hlen : (xs.length + ys.length) * bytes ≤ 140737488355328) (h63 : xs.length + ys.length ≤ 9223372036854775807) (hbase : base ≤ W.heap.size) (hL : ∀ b ∈ L, b < W.heap.size)
    (h : ∀ A c w', OwnS d e w' base L (.slice A (xs.length + ys.length) c) (xs ++ ys) → W.grownBy w' v.ownBlock → (∀ B w0, Below B w0 W → B ≤ base → Below B w0 w') → ((Value.slice A (xs.length + ys.length) c).ownBlock = v.ownBlock ∨ (Value.slice A (xs.length + ys.length) c).ownBlock = some W.heap.size) → K (a.put o.dst (.slice A (xs.length + ys.length) c)) w') :
    if Region.wanted o (yielded ops a.tmps) = true then Oper.wp P o a W K Q else E := by
  have hw : Region.wanted o (yielded ops a.tmps) = true := by simp [Region.wanted, hgd]
  rw [if_pos hw]
  exact wp_pushAll d s x t ho base e z bytes L xs ys v sv ht hinfo hzs hsz hs hO hx hy hlen h63 hbase hL h
end Go.Proofs.Ytcahlfafadabaaa
