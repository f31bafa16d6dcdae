/- How Go's data read as Lean data in a world: representations that are stable under writes elsewhere. -/
import Derived.Test.YtcahlfafadabaaaProg
import Derived.WalkKit
import Derived.BigQuiet
import Derived.Deep.QuietTactic
import Derived.Deep.LoopGhost
import Derived.Lib.Hide
import Derived.WalkLawsBesides
import Derived.WalkSpells
namespace Go.Proofs.Ytcahlfafadabaaa
open Go.RowKit

/-- A representation of α by a fixed number of cells. `L`: blocks that are in flux; what x leads to avoids them. -/
structure Rp (α : Type) where
  sz : Nat
  K : World → List Nat → α → List Value → Prop
  len : ∀ {w L x cs}, K w L x cs → cs.length = sz
  one : ∀ {w L x cs}, K w L x cs → ∀ u, u ∈ cs → u.oneCell' = true
  move : ∀ {w w' L L' x cs}, (∀ b, b < w.heap.size → b ∉ L → b ∉ L' ∧ w'.heap[b]? = w.heap[b]?) → K w L x cs → K w' L' x cs

theorem cell_of_heap {w w' : World} {b : Nat} (h : w'.heap[b]? = w.heap[b]?) (o : Nat) : w'.cell? ⟨b, o, none⟩ = w.cell? ⟨b, o, none⟩ := by
  simp only [World.cell?, h]

/-- v is a slice that reads as xs. -/
def Sl {α : Type} (d : Rp α) (w : World) (L : List Nat) (v : Value) (xs : List α) : Prop :=
  ∃ A c, v = .slice A xs.length c ∧ xs.length ≤ c ∧ xs.length ≤ maxLen ∧ (A = none → c = 0) ∧ (xs ≠ [] → ∃ b o, A = some ⟨b, o, none⟩ ∧ b < w.heap.size ∧ b ∉ L ∧
    ∀ i x, xs[i]? = some x → ∃ cs, d.K w L x cs ∧ ∀ j u, cs[j]? = some u → w.cell? ⟨b, o + i * d.sz + j, none⟩ = some u)

theorem Sl.move {α : Type} {d : Rp α} {w w' : World} {L L' : List Nat} {v : Value} {xs : List α} (hm : ∀ b, b < w.heap.size → b ∉ L → b ∉ L' ∧ w'.heap[b]? = w.heap[b]?) (h : Sl d w L v xs) : Sl d w' L' v xs := by
  obtain ⟨A, c, rfl, h1, h2, h0, h3⟩ := h
  refine ⟨A, c, rfl, h1, h2, h0, fun hne => ?_⟩
  obtain ⟨b, o, rfl, hb, hL, hx⟩ := h3 hne
  have hmb := hm b hb hL
  refine ⟨b, o, rfl, ?_, hmb.1, fun i x hi => ?_⟩
  · rcases Nat.lt_or_ge b w'.heap.size with h | h
    · exact h
    · have e := hmb.2
      rw [Array.getElem?_eq_none h, Array.getElem?_eq_getElem hb] at e
      cases e
  · obtain ⟨cs, hk, hc⟩ := hx i x hi
    exact ⟨cs, d.move hm hk, fun j u hj => (cell_of_heap hmb.2 _).trans (hc j u hj)⟩

theorem move_below {w w' : World} {L : List Nat} {B : Nat} (h : Below B w w') (hB : w.heap.size ≤ B) : ∀ b, b < w.heap.size → b ∉ L → b ∉ L ∧ w'.heap[b]? = w.heap[b]? :=
  fun b hb hL => ⟨hL, h.block b (Nat.lt_of_lt_of_le hb hB)⟩

theorem Sl.below {α : Type} {d : Rp α} {w w' : World} {L : List Nat} {v : Value} {xs : List α} (h : Sl d w L v xs) (hb : Below w.heap.size w w') : Sl d w' L v xs :=
  h.move (move_below hb (Nat.le_refl _))

theorem Rp.below {α : Type} {w w' : World} {L : List Nat} {x : α} {cs : List Value} (d : Rp α) (h : d.K w L x cs) (hb : Below w.heap.size w w') : d.K w' L x cs :=
  d.move (move_below hb (Nat.le_refl _)) h

theorem Sl.val {α : Type} {d : Rp α} {w : World} {L : List Nat} {v : Value} {xs : List α} (h : Sl d w L v xs) : ∃ A c, v = .slice A xs.length c := by
  obtain ⟨A, c, rfl, _⟩ := h; exact ⟨A, c, rfl⟩

theorem Sl.max {α : Type} {d : Rp α} {w : World} {L : List Nat} {v : Value} {xs : List α} (h : Sl d w L v xs) : xs.length ≤ 9223372036854775807 := by
  obtain ⟨A, c, rfl, _, h2, _⟩ := h; exact h2

theorem Sl.get {α : Type} {d : Rp α} {w : World} {L : List Nat} {A : Option Addr} {n c : Nat} {xs : List α} (h : Sl d w L (.slice A n c) xs) {i : Nat} (hi : i < xs.length) :
    ∃ b o, A = some ⟨b, o, none⟩ ∧ b < w.heap.size ∧ ∃ cs, d.K w L xs[i] cs ∧ ∀ j u, cs[j]? = some u → w.cell? ⟨b, o + i * d.sz + j, none⟩ = some u := by
  obtain ⟨A', c', e, _, _, _, h3⟩ := h
  cases e
  obtain ⟨b, o, rfl, hb, _, hx⟩ := h3 (by intro e; rw [e] at hi; exact absurd hi (Nat.not_lt_zero _))
  obtain ⟨cs, hk, hc⟩ := hx i xs[i] (List.getElem?_eq_getElem hi)
  exact ⟨b, o, rfl, hb, cs, hk, hc⟩

theorem Sl.len_eq {α : Type} {d : Rp α} {w : World} {L : List Nat} {A : Option Addr} {n c : Nat} {xs : List α} (h : Sl d w L (.slice A n c) xs) : n = xs.length := by
  obtain ⟨A', c', e, _⟩ := h
  cases e; rfl

/-- What lies in w, read in a later world, apart from blocks that are younger than w. -/
theorem Sl.into {α : Type} {d : Rp α} {w W : World} {L M : List Nat} {v : Value} {xs : List α} (h : Sl d w L v xs) (hb : Below w.heap.size w W) (hM : ∀ b ∈ M, w.heap.size ≤ b) : Sl d W (M ++ L) v xs :=
  h.move fun b hb' hL => ⟨by simp only [List.mem_append, not_or]; exact ⟨fun hm => by have := hM b hm; omega, hL⟩, hb.block b hb'⟩
theorem Rp.into {α : Type} {w W : World} {L M : List Nat} {x : α} {cs : List Value} (d : Rp α) (h : d.K w L x cs) (hb : Below w.heap.size w W) (hM : ∀ b ∈ M, w.heap.size ≤ b) : d.K W (M ++ L) x cs :=
  d.move (fun b hb' hL => ⟨by simp only [List.mem_append, not_or]; exact ⟨fun hm => by have := hM b hm; omega, hL⟩, hb.block b hb'⟩) h
theorem cell_up {w W : World} {b o : Nat} {v : Value} (hB : Below w.heap.size w W) (h : w.cell? ⟨b, o, none⟩ = some v) : W.cell? ⟨b, o, none⟩ = some v :=
  (hB.cell (p := ⟨b, o, none⟩) (World.block_lt_of_cell? w _ h)).trans h
/-- The cells of a new block. -/
theorem new_cells (W : World) (cs : List Value) (t : TypeId) : ∀ j u, cs[j]? = some u → (W.alloc (.cells cs.toArray t)).cell? ⟨W.heap.size, j, none⟩ = some u := by
  intro j u hj
  show (match (W.heap.push (.cells cs.toArray t))[W.heap.size]? with | some (.cells c _ _) => if (none : Option Nat).isSome then none else c[j]? | _ => none) = _
  rw [Array.getElem?_push, if_pos rfl]
  simpa using hj

/-- One cell that holds a plain value. -/
def Rp.scalar {α : Type} (enc : α → Value) (h1 : ∀ x, (enc x).oneCell' = true) : Rp α where
  sz := 1
  K := fun _ _ x cs => cs = [enc x]
  len := fun h => by rw [h]; rfl
  one := fun h u hu => by rw [h] at hu; simp at hu; rw [hu]; exact h1 _
  move := fun _ h => h
def Rp.int (k : IntKind) : Rp Int := Rp.scalar (Value.int k) (fun _ => rfl)
def Rp.bool : Rp Bool := Rp.scalar Value.bool (fun _ => rfl)
def Rp.str : Rp ByteArray := Rp.scalar Value.string (fun _ => rfl)

def Rp.slice {α : Type} (d : Rp α) : Rp (List α) where
  sz := 1
  K := fun w L xs cs => ∃ v, cs = [v] ∧ Sl d w L v xs
  len := fun ⟨v, e, _⟩ => by rw [e]; rfl
  one := fun ⟨v, e, h⟩ u hu => by
    obtain ⟨A, c, rfl, _⟩ := h
    rw [e] at hu; simp at hu; rw [hu]; rfl
  move := fun hm ⟨v, e, h⟩ => ⟨v, e, h.move hm⟩

def Rp.pair {α β : Type} (a : Rp α) (b : Rp β) : Rp (α × β) where
  sz := a.sz + b.sz
  K := fun w L x cs => ∃ c1 c2, cs = c1 ++ c2 ∧ a.K w L x.1 c1 ∧ b.K w L x.2 c2
  len := fun ⟨c1, c2, e, h1, h2⟩ => by rw [e, List.length_append, a.len h1, b.len h2]
  one := fun ⟨c1, c2, e, h1, h2⟩ u hu => by
    rw [e, List.mem_append] at hu
    rcases hu with hu | hu
    · exact a.one h1 u hu
    · exact b.one h2 u hu
  move := fun hm ⟨c1, c2, e, h1, h2⟩ => ⟨c1, c2, e, a.move hm h1, b.move hm h2⟩

def Rp.iso {α β : Type} (d : Rp α) (f : β → α) : Rp β where
  sz := d.sz
  K := fun w L x cs => d.K w L (f x) cs
  len := fun h => d.len h
  one := fun h => d.one h
  move := fun hm h => d.move hm h

/-- A region that draws its order, walked once, in a class of worlds of my own. -/
theorem wp_region_class {P : Program} {C : World → Prop} {id : Nat} {Q : Exit → Act → World → Prop} {a : Act} {w : World} {l : List Oper} (hm : P.follows .mixedOrders = true) (hB : Region.lexB .any l.toArray = true) (hC : C w.drew)
    (h : wpQuiet P l.toArray C (fun a' => ∀ w', C w' → Q .normal a' w') l a) : (Code.region id l.toArray true).wp P Q a w :=
  wp_region_quiet (C := C) hm hB hC (by simpa using h)

/-- The same, in the worlds that leave all that lies in w as it is. -/
theorem wp_region_below {P : Program} {id : Nat} {Q : Exit → Act → World → Prop} {a : Act} {w : World} {l : List Oper} (hm : P.follows .mixedOrders = true) (hB : Region.lexB .any l.toArray = true)
    (h : wpQuiet P l.toArray (fun W => Below w.heap.size w W) (fun a' => ∀ w', Below w.heap.size w w' → Q .normal a' w') l a) : (Code.region id l.toArray true).wp P Q a w :=
  wp_region_class (C := fun W => Below w.heap.size w W) hm hB ⟨rfl, rfl, rfl, Nat.le_refl _, fun _ _ => rfl⟩ h
theorem Calls.classed {P : Program} {f : FuncId} {args : Array Value} {w0 W : World} {v : Value} (hW : Below w0.heap.size w0 W) (h : Calls P f args W fun e w' => e = .returned v ∧ Below W.heap.size W w') :
    Calls P f args W fun e w'' => e = .returned v ∧ Below w0.heap.size w0 w'' := h.mono fun _ _ ⟨he, hb⟩ => ⟨he, hW.trans (hb.mono hW.size)⟩
theorem Calls.classedQ {P : Program} {f : FuncId} {args : Array Value} {w0 W : World} {v : Value} (hW : Below w0.heap.size w0 W) (h : Calls P f args W fun e w' => e = .returned v ∧ ∃ q, w' = W.drewN q) :
    Calls P f args W fun e w'' => e = .returned v ∧ Below w0.heap.size w0 w'' := h.mono fun _ _ ⟨he, q, hq⟩ => ⟨he, by rw [hq]; exact ⟨hW.os, hW.tape, hW.output, hW.size, hW.block⟩⟩

theorem ret_bool {a b : Bool} (h : a = b) : Ending.returned (.bool a) = .returned (.bool b) := by rw [h]
theorem ret_int {k : IntKind} {a b : Int} (h : a = b) : Ending.returned (.int k a) = .returned (.int k b) := by rw [h]
theorem below_drewN {B : Nat} {w W : World} (h : Below B w W) (n : Nat) : Below B w (W.drewN n) := ⟨h.os, h.tape, h.output, h.size, h.block⟩
theorem below_drew {B : Nat} {w W : World} (h : Below B w W) : Below B w W.drew := ⟨h.os, h.tape, h.output, h.size, h.block⟩
theorem dn2 (w : World) (a b : Nat) : (w.drewN a).drewN b = w.drewN (a + b) := by simp

end Go.Proofs.Ytcahlfafadabaaa
