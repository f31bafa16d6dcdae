/- More on slices that are read, and on worlds. -/
import Derived.Test.YtcahlfafadabaaaOwn
namespace Go.Proofs.Ytcahlfafadabaaa
open Go.RowKit

/-- The world under a name. -/
theorem wp_abs {P : Program} {c : Code} {Q : Exit → Act → World → Prop} {a : Act} {W : World} (h : ∀ W', W' = W → c.wp P Q a W') : c.wp P Q a W := h W rfl

/-- A cut of a slice. -/
theorem Sl.cut {α : Type} {d : Rp α} {w : World} {L : List Nat} {b o n c : Nat} {xs : List α} (h : Sl d w L (.slice (some ⟨b, o, none⟩) n c) xs) {i j : Nat} (hij : i ≤ j) (hj : j ≤ xs.length) :
    Sl d w L (.slice (some ⟨b, o + i * d.sz, none⟩) (j - i) (c - i)) ((xs.drop i).take (j - i)) := by
  obtain ⟨A, c', e, h1, h2, h0, h3⟩ := h
  cases e
  have hl : ((xs.drop i).take (j - i)).length = j - i := by rw [List.length_take, List.length_drop]; omega
  refine ⟨_, _, by rw [hl], by omega, by omega, (fun h => by cases h), fun hne => ?_⟩
  have hlen : 0 < j - i := by
    rcases Nat.eq_zero_or_pos (j - i) with h | h
    · rw [h] at hne; exact absurd (List.take_zero) hne
    · exact h
  obtain ⟨b', o', e, hb, hL, hx⟩ := h3 (by intro e; rw [e] at hj; simp at hj; omega)
  cases e
  refine ⟨b, _, rfl, hb, hL, fun k x hk => ?_⟩
  rw [List.getElem?_take] at hk
  split at hk
  · rw [List.getElem?_drop] at hk
    obtain ⟨cs, hkk, hc⟩ := hx _ x hk
    refine ⟨cs, hkk, fun m u hm => ?_⟩
    rw [show o + i * d.sz + k * d.sz + m = o + (i + k) * d.sz + m from by rw [Nat.add_mul]; omega]
    exact hc m u hm
  · cases hk

theorem frozen_of_heap {w w' : World} {b : Nat} (h : w'.heap[b]? = w.heap[b]?) (o : Nat) : w'.frozen? ⟨b, o, none⟩ = w.frozen? ⟨b, o, none⟩ := by
  simp only [World.frozen?, h]
theorem frozen_up {w W : World} {b o : Nat} (hB : Below w.heap.size w W) (hb : b < w.heap.size) (h : w.frozen? ⟨b, o, none⟩ = false) : W.frozen? ⟨b, o, none⟩ = false :=
  (frozen_of_heap (hB.block b hb) o).trans h
theorem OwnS.blk_lt {α : Type} {d : Rp α} {e : TypeId} {w : World} {base : Nat} {L : List Nat} {v : Value} {xs : List α} (h : OwnS d e w base L v xs) : ∀ b ∈ blk v, b < w.heap.size := by
  obtain ⟨cells, ho, _⟩ := h
  intro b hb
  unfold blk at hb
  split at hb
  · rename_i c hc; simp at hb; subst hb; exact (own_block ho hc).2
  · cases hb
theorem below_trans {B : Nat} {w w1 w2 : World} (h : Below B w w1) (h2 : Below w1.heap.size w1 w2) (hB : B ≤ w1.heap.size) : Below B w w2 := h.trans (h2.mono hB)
theorem wp_push {P : Program} {o : Oper} {a : Act} {K : Act → World → Prop} {Q : Exit → Act → World → Prop} {W : World} {α : Type} (d : Rp α) (hgd : o.guard = none) (s x : Operand) (t : TypeId)
    (ho : o.op = .call { callee := .builtin .append, args := #[s, x], argTypes := #[t, t] }) (base : Nat) (e : TypeId) (z : Value) (bytes : Nat) (L : List Nat) (xs : List α) (y : α) (ycells : List Value) (v : Value) (g : Nat)
    (ht : P.underlying t = some (.slice e)) (hinfo : (P.info? e).map (fun i => (i.zero, i.size, i.bytes)) = some (some z, d.sz, bytes)) (hzs : z.cells.size = d.sz) (hsz : 0 < d.sz)
    (hs : a.eval s = v) (hO : OwnS d e W base L v xs) (hx : a.eval x = .slice (some ⟨g, 0, none⟩) 1 1) (hc : ∀ j u, ycells[j]? = some u → W.cell? ⟨g, j, none⟩ = some u) (hy : d.K W (blk v ++ L) y ycells)
    (hlen : (xs.length + 1) * bytes ≤ 140737488355328) (h63 : xs.length + 1 ≤ 9223372036854775807) (hbase : base ≤ W.heap.size) (hL : ∀ b ∈ L, b < W.heap.size)
    (h : ∀ g cap w', OwnS d e w' base L (.slice (some ⟨g, 0, none⟩) (xs.length + 1) cap) (xs ++ [y]) → W.grownBy w' v.ownBlock → (∀ B w0, Below B w0 W → B ≤ base → Below B w0 w') → (v.ownBlock = some g ∨ g = W.heap.size) → g < w'.heap.size → K (a.put o.dst (.slice (some ⟨g, 0, none⟩) (xs.length + 1) cap)) w') : Oper.wp P o a W K Q := by
  have hw : Region.wanted o (yielded #[] a.tmps) = true := by simp [Region.wanted, hgd]
  have := step_push (P := P) (ops := #[]) (E := True) (Q := Q) (K := K) d hgd s x t ho base e z bytes L xs y ycells v g ht hinfo hzs hsz hs hO hx hc hy hlen h63 hbase hL h
  rwa [if_pos hw] at this
theorem wpList_push1 {P : Program} {ops : Array Oper} {rest : List Oper} {o : Oper} {a : Act} {Q : Exit → Act → World → Prop} {W : World} {α : Type} (d : Rp α) (hgd : o.guard = none) (s x : Operand) (t : TypeId)
    (ho : o.op = .call { callee := .builtin .append, args := #[s, x], argTypes := #[t, t] }) (base : Nat) (e : TypeId) (z : Value) (bytes : Nat) (L : List Nat) (xs : List α) (y : α) (ycells : List Value) (v : Value) (g : Nat)
    (ht : P.underlying t = some (.slice e)) (hinfo : (P.info? e).map (fun i => (i.zero, i.size, i.bytes)) = some (some z, d.sz, bytes)) (hzs : z.cells.size = d.sz) (hsz : 0 < d.sz)
    (hs : a.eval s = v) (hO : OwnS d e W base L v xs) (hx : a.eval x = .slice (some ⟨g, 0, none⟩) 1 1) (hc : ∀ j u, ycells[j]? = some u → W.cell? ⟨g, j, none⟩ = some u) (hy : d.K W (blk v ++ L) y ycells)
    (hlen : (xs.length + 1) * bytes ≤ 140737488355328) (h63 : xs.length + 1 ≤ 9223372036854775807) (hbase : base ≤ W.heap.size) (hL : ∀ b ∈ L, b < W.heap.size)
    (h : ∀ g cap w', OwnS d e w' base L (.slice (some ⟨g, 0, none⟩) (xs.length + 1) cap) (xs ++ [y]) → W.grownBy w' v.ownBlock → (∀ B w0, Below B w0 W → B ≤ base → Below B w0 w') → (v.ownBlock = some g ∨ g = W.heap.size) → g < w'.heap.size → wpList P ops Q rest (a.put o.dst (.slice (some ⟨g, 0, none⟩) (xs.length + 1) cap)) w') : wpList P ops Q (o :: rest) a W :=
  wpList_plain hgd fun _ hK => wp_push d hgd s x t ho base e z bytes L xs y ycells v g ht hinfo hzs hsz hs hO hx hc hy hlen h63 hbase hL fun g' cap w' a1 a2 a3 a4 a5 => hK _ _ (h g' cap w' a1 a2 a3 a4 a5)
end Go.Proofs.Ytcahlfafadabaaa
