/- Marks, and that two of them are the same. -/
import Derived.Test.YtfejkaemledipaaRep
namespace Go.Proofs.Ytfejkaemledipaa
open Go.RowKit

structure Mark where
  page : Int
  x : Int
  y : Int
  font : Int
  size : Int
  colour : ByteArray
  name : ByteArray
  stroke : ByteArray
  n : List Int
  deriving DecidableEq

theorem Mark.ext_iff' (a b : Mark) : a = b ↔ a.page = b.page ∧ a.x = b.x ∧ a.y = b.y ∧ a.font = b.font ∧ a.size = b.size ∧ a.colour = b.colour ∧ a.name = b.name ∧ a.stroke = b.stroke ∧ a.n = b.n := by
  cases a; cases b; simp

def rInts : Rp (List Int) := Rp.slice (Rp.int .i64)
def rMark : Rp Mark := Rp.iso (Rp.pair (Rp.int .i64) (Rp.pair (Rp.int .i64) (Rp.pair (Rp.int .i64) (Rp.pair (Rp.int .i64) (Rp.pair (Rp.int .i64) (Rp.pair Rp.str (Rp.pair Rp.str (Rp.pair Rp.str rInts))))))))
  (fun m => (m.page, m.x, m.y, m.font, m.size, m.colour, m.name, m.stroke, m.n))

/-- A mark's cells. -/
def mcells (m : Mark) (v : Value) : List Value := [.int .i64 m.page, .int .i64 m.x, .int .i64 m.y, .int .i64 m.font, .int .i64 m.size, .string m.colour, .string m.name, .string m.stroke, v]

theorem rMark_open {w : World} {L : List Nat} {m : Mark} {cs : List Value} (h : rMark.K w L m cs) : ∃ v, cs = mcells m v ∧ Sl (Rp.int .i64) w L v m.n := by
  obtain ⟨_, _, rfl, rfl, _, _, rfl, rfl, _, _, rfl, rfl, _, _, rfl, rfl, _, _, rfl, rfl, _, _, rfl, rfl, _, _, rfl, rfl, _, _, rfl, rfl, v, rfl, hv⟩ := h
  exact ⟨v, rfl, hv⟩

theorem rMark_mk {w : World} {L : List Nat} {m : Mark} {v : Value} (hv : Sl (Rp.int .i64) w L v m.n) : rMark.K w L m (mcells m v) :=
  ⟨_, _, rfl, rfl, _, _, rfl, rfl, _, _, rfl, rfl, _, _, rfl, rfl, _, _, rfl, rfl, _, _, rfl, rfl, _, _, rfl, rfl, _, _, rfl, rfl, v, rfl, hv⟩

theorem int_cell {w : World} {L : List Nat} {A : Option Addr} {n c : Nat} {xs : List Int} {k : IntKind} (h : Sl (Rp.int k) w L (.slice A n c) xs) {i : Nat} (hi : i < xs.length) :
    ∃ b o, A = some ⟨b, o, none⟩ ∧ w.cell? ⟨b, o + i, none⟩ = some (.int k xs[i]) := by
  obtain ⟨b, o, rfl, _, cs, hk, hc⟩ := h.get hi
  have hk' : cs = [.int k xs[i]] := hk
  refine ⟨b, o, rfl, ?_⟩
  have := hc 0 (.int k xs[i]) (by rw [hk']; rfl)
  simpa [Rp.int, Rp.scalar] using this

/-- Two lists are alike up to k. -/
theorem take_succ_eq {α : Type} {xs ys : List α} {k : Nat} (h1 : k < xs.length) (h2 : k < ys.length) (ht : xs.take k = ys.take k) (e : xs[k] = ys[k]) : xs.take (k + 1) = ys.take (k + 1) := by
  rw [List.take_succ_eq_append_getElem h1, List.take_succ_eq_append_getElem h2, ht, e]

theorem take_full {α : Type} {xs ys : List α} (hl : xs.length = ys.length) {k : Nat} (hk : xs.length ≤ k) (h : xs.take k = ys.take k) : xs = ys := by
  rwa [List.take_of_length_le hk, List.take_of_length_le (by omega)] at h

set_option maxHeartbeats 400000 in
/-- slices.Equal at []int. -/
theorem intsEqual (w : World) (L : List Nat) (A1 A2 : Option Addr) (c1 c2 : Nat) (xs ys : List Int) (h1 : Sl (Rp.int .i64) w L (.slice A1 xs.length c1) xs) (h2 : Sl (Rp.int .i64) w L (.slice A2 ys.length c2) ys) :
    Calls Try.prog 22 #[.slice A1 xs.length c1, .slice A2 ys.length c2] w fun e w' => e = .returned (.bool (decide (xs = ys))) ∧ ∃ q, w' = w.drewN q := by
  have m1 := h1.max
  have m2 := h2.max
  by_cases hl : xs.length = ys.length
  · have hb : (xs.length != ys.length) = false := by simp [hl]
    have Hl := Lib.hid hl
    clear hl
    go_enter Try.func22, Try.ntmps22
    go_wp2
    go_loopw [13] (fun i wr => ∃ k : Nat, k ≤ xs.length ∧ i = .int .i64 k ∧ (∃ q, wr = w.drewN q) ∧ xs.take k = ys.take k) (fun i _ => xs.length - (intOf i).toNat)
    case atStart => exact ⟨0, Nat.zero_le _, rfl, ⟨0, rfl⟩, rfl⟩
    case round =>
      obtain ⟨k, hk, rfl, ⟨q, rfl⟩, ht⟩ := hrel
      have Ht := Lib.hid ht
      clear ht
      by_cases hlt : k < xs.length
      · have hlt2 : k < ys.length := by have := Hl.out; omega
        obtain ⟨b1, o1, rfl, g1⟩ := int_cell h1 hlt
        obtain ⟨b2, o2, rfl, g2⟩ := int_cell h2 hlt2
        go_wp2
        go_quiet (fail)
        go_wp2
        · have hne : (xs[k] != ys[k]) = true := by assumption
          go_ret
          exact ⟨ret_bool (by rw [decide_eq_false]; intro e; subst e; simp at hne), _, dn2 _ _ _⟩
        · have he : (xs[k] != ys[k]) = false := by assumption
          go_roundw
          case rel => exact ⟨k + 1, by omega, by go_num, ⟨_, rfl⟩, take_succ_eq hlt hlt2 Ht.out (by simpa using he)⟩
          case measure => simp [intOf]; omega
      · go_wp2
        go_ret
        exact ⟨ret_bool (by rw [decide_eq_true (take_full Hl.out (by omega) Ht.out)]), _, rfl⟩
  · have hb : (xs.length != ys.length) = true := by simp [hl]
    go_enter Try.func22, Try.ntmps22
    go_wp2
    go_ret
    exact ⟨ret_bool (by rw [decide_eq_false]; intro e; exact hl (by rw [e])), 0, rfl⟩
end Go.Proofs.Ytfejkaemledipaa
