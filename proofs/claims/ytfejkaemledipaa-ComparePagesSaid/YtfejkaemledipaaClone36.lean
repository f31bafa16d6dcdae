/- Copies of marks: the program's and the document's. -/
import Derived.Test.YtfejkaemledipaaEq36b
import Derived.Test.YtfejkaemledipaaOwn
namespace Go.Proofs.Ytfejkaemledipaa
open Go.RowKit

theorem infoInt : (Try.prog.info? 3).map (fun i => (i.zero, i.size, i.bytes)) = some (some (.int .i64 0), 1, 8) := by kernel_rfl
theorem infoMark : (Try.prog.info? 45).map (fun i => (i.zero, i.size, i.bytes)) = some (some (.agg #[.int .i64 0, .int .i64 0, .int .i64 0, .int .i64 0, .int .i64 0, .string ⟨#[]⟩, .string ⟨#[]⟩, .string ⟨#[]⟩, .slice none 0 0]), 9, 112) := by kernel_rfl

/-- An empty literal. -/
theorem own_empty {α : Type} (d : Rp α) (e : TypeId) (w : World) (L : List Nat) (hL : ∀ b ∈ L, b < w.heap.size) : OwnS d e (w.alloc (.cells #[] e)) w.heap.size L (.slice (some ⟨w.heap.size, 0, none⟩) 0 0) [] := by
  refine ⟨[], ⟨by simp, .inr ⟨w.heap.size, 0, #[], rfl, Nat.le_refl _, ?_, Nat.le_refl _, Nat.zero_le _, by simp, by simp⟩⟩, fun b hb hn => ?_, fun i x h => by simp at h⟩
  · show (w.heap.push _)[w.heap.size]? = _
    rw [Array.getElem?_push, if_pos rfl]
  · simp [Value.ownBlock] at hb
    have := hL b hn
    omega

set_option maxHeartbeats 1600000 in
theorem cloneInts (w : World) (L : List Nat) (A : Option Addr) (c : Nat) (xs : List Int) (h : Sl (Rp.int .i64) w L (.slice A xs.length c) xs) (hL : ∀ b ∈ L, b < w.heap.size) (hn : xs.length ≤ 17592186044416) :
    Calls Try.prog 20 #[.slice A xs.length c] w fun e w' => ∃ A' c', e = .returned (.slice A' xs.length c') ∧ OwnS (Rp.int .i64) 3 w' w.heap.size L (.slice A' xs.length c') xs ∧ Below w.heap.size w w' := by
  have H := Lib.hid h
  have h' := h
  obtain ⟨A1, c1, e, h1, h2, h0, h3⟩ := h'
  cases e
  have hnl := fun w => Lib.run_eql_slice_nil (P := Try.prog) w 43 3 A xs.length c 0 0 Try.underlying43
  cases A with
  | none =>
    obtain rfl := h0 rfl
    obtain rfl : xs = [] := List.length_eq_zero_iff.1 (by omega)
    have hnl0 := fun w => Lib.run_eql_slice_nil (P := Try.prog) w 43 3 none 0 0 0 0 Try.underlying43
    clear h1 h2 h0 h3 h
    go_enter Try.func20, Try.ntmps20
    go_wp2
    go_ret
    exact ⟨none, 0, rfl, OwnS.nil _ _ _ _ _, Below.refl _ _⟩
  | some ad =>
    clear h1 h2 h0 h3 h
    go_enter Try.func20, Try.ntmps20
    go_wp2_with (refine wpList_pushAll (Rp.int .i64) rfl _ _ _ rfl w.heap.size 3 _ 8 L [] xs _ _ Try.underlying43 infoInt rfl (by decide) rfl ?hO rfl ?hy ?hl ?h63 ?hb ?hL ?_)
    case hO => exact own_empty _ _ _ _ hL
    case hy => exact H.out.into ((Below.refl _ _).alloc (Nat.le_refl _) _) (fun b hb => Nat.le_of_eq (List.mem_singleton.1 hb).symm)
    case hl => simp; omega
    case h63 => simp; omega
    case hb => simp
    case hL => intro b hb; have := hL b hb; simp; omega
    intro A' c' w1 hO1 hg hfr hat
    have hB1 : Below w.heap.size w w1 := hfr _ _ ((Below.refl _ _).alloc (Nat.le_refl _) _) (Nat.le_refl _)
    try simp only [List.length_nil, Nat.zero_add, List.nil_append] at hO1
    clear hg hfr hat hnl
    have HO1 := Lib.hid hO1
    clear hO1
    go_wp2
    go_ret
    exact ⟨A', c', rfl, HO1.out, hB1⟩
set_option maxHeartbeats 1600000 in
theorem cloneMarks (w : World) (L : List Nat) (A : Option Addr) (c : Nat) (xs : List Mark) (h : Sl rMark w L (.slice A xs.length c) xs) (hL : ∀ b ∈ L, b < w.heap.size) (hn : xs.length ≤ 1000000) :
    Calls Try.prog 19 #[.slice A xs.length c] w fun e w' => ∃ A' c', e = .returned (.slice A' xs.length c') ∧ OwnS rMark 45 w' w.heap.size L (.slice A' xs.length c') xs ∧ Below w.heap.size w w' := by
  have H := Lib.hid h
  have h' := h
  obtain ⟨A1, c1, e, h1, h2, h0, h3⟩ := h'
  cases e
  have hnl := fun w => Lib.run_eql_slice_nil (P := Try.prog) w 22 45 A xs.length c 0 0 Try.underlying22
  cases A with
  | none =>
    obtain rfl := h0 rfl
    obtain rfl : xs = [] := List.length_eq_zero_iff.1 (by omega)
    have hnl0 := fun w => Lib.run_eql_slice_nil (P := Try.prog) w 22 45 none 0 0 0 0 Try.underlying22
    clear h1 h2 h0 h3 h
    go_enter Try.func19, Try.ntmps19
    go_wp2
    go_ret
    exact ⟨none, 0, rfl, OwnS.nil _ _ _ _ _, Below.refl _ _⟩
  | some ad =>
    clear h1 h2 h0 h3 h
    go_enter Try.func19, Try.ntmps19
    go_wp2_with (refine wpList_pushAll rMark rfl _ _ _ rfl w.heap.size 45 _ 112 L [] xs _ _ Try.underlying22 infoMark rfl (by decide) rfl ?hO rfl ?hy ?hl ?h63 ?hb ?hL ?_)
    case hO => exact own_empty _ _ _ _ hL
    case hy => exact H.out.into ((Below.refl _ _).alloc (Nat.le_refl _) _) (fun b hb => Nat.le_of_eq (List.mem_singleton.1 hb).symm)
    case hl => simp; omega
    case h63 => simp; omega
    case hb => simp
    case hL => intro b hb; have := hL b hb; simp; omega
    intro A' c' w1 hO1 hg hfr hat
    have hB1 : Below w.heap.size w w1 := hfr _ _ ((Below.refl _ _).alloc (Nat.le_refl _) _) (Nat.le_refl _)
    try simp only [List.length_nil, Nat.zero_add, List.nil_append] at hO1
    clear hg hfr hat hnl
    have HO1 := Lib.hid hO1
    clear hO1
    go_wp2
    go_ret
    exact ⟨A', c', rfl, HO1.out, hB1⟩
end Go.Proofs.Ytfejkaemledipaa
