/- The law's fixed example: Least of pages 1, 2, 3 and 1, 3. -/
import Derived.Test.YtfejkaemledipaaLeast36
namespace Go.Proofs.Ytfejkaemledipaa
open Go.RowKit

/-- A new row of elements, given as cells. -/
theorem Sl.lit {α : Type} (d : Rp α) (w : World) (t : TypeId) (xs : List α) (cs : List Value) (hm : xs.length ≤ maxLen) (hx : ∀ i x, xs[i]? = some x → d.K w [] x ((cs.drop (i * d.sz)).take d.sz)) :
    Sl d (w.alloc (.cells cs.toArray t)) [] (.slice (some ⟨w.heap.size, 0, none⟩) xs.length xs.length) xs := by
  have hb : Below w.heap.size w (w.alloc (.cells cs.toArray t)) := (Below.refl _ _).alloc (Nat.le_refl _) _
  refine ⟨_, _, rfl, Nat.le_refl _, hm, (fun h => by cases h), fun _ => ⟨w.heap.size, 0, rfl, by simp, by simp, fun i x hi => ⟨_, d.below (hx i x hi) hb, fun j u hj => ?_⟩⟩⟩
  rw [List.getElem?_take] at hj
  split at hj
  · rw [List.getElem?_drop] at hj
    rw [Nat.zero_add]
    exact new_cells w cs t _ u hj
  · cases hj
def pg (n : Int) : Page := ⟨n, []⟩
theorem rPage_pg (w : World) (n : Int) : rPage.K w [] (pg n) [.int .i64 n, .slice none 0 0] :=
  ⟨[.int .i64 n], [.slice none 0 0], rfl, rfl, _, rfl, none, 0, rfl, Nat.le_refl _, by simp [maxLen, pg], fun _ => rfl, fun h => absurd rfl h⟩
theorem pg_ne {a b : Int} (h : a ≠ b) : pg a ≠ pg b := fun e => h (congrArg Page.number e)
theorem sane_edits : edits 6 0 0 [pg 1, pg 2, pg 3] [pg 1, pg 3] = [⟨0, 0, 0⟩, ⟨1, 1, 0⟩, ⟨0, 2, 1⟩] := by
  simp [edits, cst, pg]
  decide
theorem OwnS.cell3 {e : TypeId} {w : World} {base : Nat} {L : List Nat} {v : Value} {xs : List Edit} (h : OwnS rEdit e w base L v xs) {i : Nat} {a b c : Int} (hi : xs[i]? = some ⟨a, b, c⟩) :
    ∃ g cap, v = .slice (some ⟨g, 0, none⟩) xs.length cap ∧ w.cell? ⟨g, i * 3, none⟩ = some (.int .i64 a) ∧ w.cell? ⟨g, i * 3 + 1, none⟩ = some (.int .i64 b) ∧ w.cell? ⟨g, i * 3 + 2, none⟩ = some (.int .i64 c) := by
  have hil := (List.getElem?_eq_some_iff.1 hi).1
  obtain ⟨A, cap, rfl⟩ := h.val
  obtain ⟨g, rfl, _, _⟩ := h.addr (by omega)
  obtain ⟨cs, hk, hc⟩ := h.get hil
  rw [(List.getElem?_eq_some_iff.1 hi).2] at hk
  have := rEdit_open hk
  subst this
  exact ⟨g, cap, rfl, hc 0 _ rfl, hc 1 _ rfl, hc 2 _ rfl⟩
theorem sane_rows (w : World) (t : TypeId) : let W := (w.alloc (.cells #[.int .i64 1, .slice none 0 0, .int .i64 2, .slice none 0 0, .int .i64 3, .slice none 0 0] t)).alloc (.cells #[.int .i64 1, .slice none 0 0, .int .i64 3, .slice none 0 0] t)
    Sl rPage W [] (.slice (some ⟨w.heap.size, 0, none⟩) 3 3) [pg 1, pg 2, pg 3] ∧ Sl rPage W [] (.slice (some ⟨w.heap.size + 1, 0, none⟩) 2 2) [pg 1, pg 3] ∧ Below w.heap.size w W := by
  intro W
  have h1 := Sl.lit rPage w t [pg 1, pg 2, pg 3] [.int .i64 1, .slice none 0 0, .int .i64 2, .slice none 0 0, .int .i64 3, .slice none 0 0] (by simp [maxLen]) (fun i x hi => by
    match i, hi with
    | 0, hi => cases hi; exact rPage_pg w 1
    | 1, hi => cases hi; exact rPage_pg w 2
    | 2, hi => cases hi; exact rPage_pg w 3
    | n + 3, hi => simp at hi)
  have h2 := Sl.lit rPage (w.alloc (.cells #[.int .i64 1, .slice none 0 0, .int .i64 2, .slice none 0 0, .int .i64 3, .slice none 0 0] t)) t [pg 1, pg 3] [.int .i64 1, .slice none 0 0, .int .i64 3, .slice none 0 0] (by simp [maxLen]) (fun i x hi => by
    match i, hi with
    | 0, hi => cases hi; exact rPage_pg _ 1
    | 1, hi => cases hi; exact rPage_pg _ 3
    | n + 2, hi => simp at hi)
  refine ⟨h1.below ((Below.refl _ _).alloc (Nat.le_refl _) _), ?_, ((Below.refl _ _).alloc (Nat.le_refl _) _).alloc (by simp) _⟩
  have hs : (w.alloc (.cells #[.int .i64 1, .slice none 0 0, .int .i64 2, .slice none 0 0, .int .i64 3, .slice none 0 0] t)).heap.size = w.heap.size + 1 := by simp
  rw [hs] at h2
  exact h2
set_option maxHeartbeats 4000000 in
theorem sane_spec (w : World) : Calls Try.prog 4 #[] w fun e w' => e = .returned (.bool true) ∧ Below w.heap.size w w' := by
  have HR := Lib.hid (sane_rows w 24)
  go_enter Try.func4, Try.ntmps4
  go_wp2_with fail
  refine (least_spec _ [] _ _ 3 2 [pg 1, pg 2, pg 3] [pg 1, pg 3] HR.out.1 HR.out.2.1 (fun b hb => by cases hb) (by simp) (by simp)).mono ?_
  rintro e w1 ⟨v, rfl, hO, hB⟩
  have hB1 := below_trans HR.out.2.2 hB HR.out.2.2.size
  rw [show (([pg 1, pg 2, pg 3].length : Nat) : Int) + (([pg 1, pg 3].length : Nat) : Int) + 1 = 6 from rfl, sane_edits] at hO
  obtain ⟨g, cap, hv, c0, c1, c2⟩ := hO.cell3 (i := 1) rfl
  obtain ⟨g', cap', hv', d0, d1, d2⟩ := hO.cell3 (i := 2) rfl
  rw [hv] at hv'
  cases hv'
  subst hv
  clear hO hB
  simp only [List.length_cons, List.length_nil, Nat.reduceAdd, Nat.reduceMul] at *
  go_wp2_with fail
  go_ret
  exact ⟨rfl, hB1⟩
end Go.Proofs.Ytfejkaemledipaa
