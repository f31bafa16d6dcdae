/- The document's comparison of marks. -/
import Derived.Test.YtfejkaemledipaaEq36b
namespace Go.Proofs.Ytfejkaemledipaa
open Go.RowKit

set_option maxHeartbeats 3200000 in
theorem sameMark_spec (w : World) (L : List Nat) (a b : Mark) (A1 A2 : Option Addr) (c1 c2 : Nat) (h1 : Sl (Rp.int .i64) w L (.slice A1 a.n.length c1) a.n) (h2 : Sl (Rp.int .i64) w L (.slice A2 b.n.length c2) b.n) :
    Calls Try.prog 15 #[.agg (mcells a (.slice A1 a.n.length c1)).toArray, .agg (mcells b (.slice A2 b.n.length c2)).toArray] w fun e w' => e = .returned (.bool (decide (a = b))) ∧ Below w.heap.size w w' := by
  have m1 := h1.max
  have m2 := h2.max
  simp only [mcells] at *
  have hB0 : ∀ (c1 c2 : Array Value), Below w.heap.size w ((w.alloc (.cells c1 45)).alloc (.cells c2 45)) := fun c1 c2 => ((Below.refl _ _).alloc (Nat.le_refl _) _).alloc (by simp) _
  have HB0 := Lib.hid hB0
  clear hB0
  by_cases e0 : a.page = b.page
  case neg =>
    have g0 : (a.page != b.page) = true := by simp [e0]
    have E := Lib.hid e0
    clear e0
    go_enter Try.func15, Try.ntmps15
    go_wp2
    go_ret
    exact ⟨ret_bool (by rw [decide_eq_false]; intro e; exact E.out (by rw [e])), HB0.out _ _⟩
  have g0 : (a.page != b.page) = false := by simp [e0]
  have E0 := Lib.hid e0
  clear e0
  by_cases e1 : a.x = b.x
  case neg =>
    have g1 : (a.x != b.x) = true := by simp [e1]
    have E := Lib.hid e1
    clear e1
    go_enter Try.func15, Try.ntmps15
    go_wp2
    go_ret
    exact ⟨ret_bool (by rw [decide_eq_false]; intro e; exact E.out (by rw [e])), HB0.out _ _⟩
  have g1 : (a.x != b.x) = false := by simp [e1]
  have E1 := Lib.hid e1
  clear e1
  by_cases e2 : a.y = b.y
  case neg =>
    have g2 : (a.y != b.y) = true := by simp [e2]
    have E := Lib.hid e2
    clear e2
    go_enter Try.func15, Try.ntmps15
    go_wp2
    go_ret
    exact ⟨ret_bool (by rw [decide_eq_false]; intro e; exact E.out (by rw [e])), HB0.out _ _⟩
  have g2 : (a.y != b.y) = false := by simp [e2]
  have E2 := Lib.hid e2
  clear e2
  by_cases e3 : a.font = b.font
  case neg =>
    have g3 : (a.font != b.font) = true := by simp [e3]
    have E := Lib.hid e3
    clear e3
    go_enter Try.func15, Try.ntmps15
    go_wp2
    go_ret
    exact ⟨ret_bool (by rw [decide_eq_false]; intro e; exact E.out (by rw [e])), HB0.out _ _⟩
  have g3 : (a.font != b.font) = false := by simp [e3]
  have E3 := Lib.hid e3
  clear e3
  by_cases e4 : a.size = b.size
  case neg =>
    have g4 : (a.size != b.size) = true := by simp [e4]
    have E := Lib.hid e4
    clear e4
    go_enter Try.func15, Try.ntmps15
    go_wp2
    go_ret
    exact ⟨ret_bool (by rw [decide_eq_false]; intro e; exact E.out (by rw [e])), HB0.out _ _⟩
  have g4 : (a.size != b.size) = false := by simp [e4]
  have E4 := Lib.hid e4
  clear e4
  by_cases e5 : a.colour = b.colour
  case neg =>
    have g5 : (!a.colour.toList == b.colour.toList) = true := by rw [strEq, decide_eq_false e5]; rfl
    have E := Lib.hid e5
    clear e5
    go_enter Try.func15, Try.ntmps15
    go_wp2
    go_ret
    exact ⟨ret_bool (by rw [decide_eq_false]; intro e; exact E.out (by rw [e])), HB0.out _ _⟩
  have g5 : (!a.colour.toList == b.colour.toList) = false := by rw [strEq, decide_eq_true e5]; rfl
  have E5 := Lib.hid e5
  clear e5
  by_cases e6 : a.name = b.name
  case neg =>
    have g6 : (!a.name.toList == b.name.toList) = true := by rw [strEq, decide_eq_false e6]; rfl
    have E := Lib.hid e6
    clear e6
    go_enter Try.func15, Try.ntmps15
    go_wp2
    go_ret
    exact ⟨ret_bool (by rw [decide_eq_false]; intro e; exact E.out (by rw [e])), HB0.out _ _⟩
  have g6 : (!a.name.toList == b.name.toList) = false := by rw [strEq, decide_eq_true e6]; rfl
  have E6 := Lib.hid e6
  clear e6
  by_cases e7 : a.stroke = b.stroke
  case neg =>
    have g7 : (!a.stroke.toList == b.stroke.toList) = true := by rw [strEq, decide_eq_false e7]; rfl
    have E := Lib.hid e7
    clear e7
    go_enter Try.func15, Try.ntmps15
    go_wp2
    go_ret
    exact ⟨ret_bool (by rw [decide_eq_false]; intro e; exact E.out (by rw [e])), HB0.out _ _⟩
  have g7 : (!a.stroke.toList == b.stroke.toList) = false := by rw [strEq, decide_eq_true e7]; rfl
  have E7 := Lib.hid e7
  clear e7
  by_cases e8 : a.n.length = b.n.length
  case neg =>
    have g8 : ((a.n.length : Int) != (b.n.length : Int)) = true := by simp; omega
    have E := Lib.hid e8
    clear e8
    go_enter Try.func15, Try.ntmps15
    go_wp2
    go_ret
    exact ⟨ret_bool (by rw [decide_eq_false]; intro e; exact E.out (by rw [e])), HB0.out _ _⟩
  have g8 : ((a.n.length : Int) != (b.n.length : Int)) = false := by simp; omega
  have E8 := Lib.hid e8
  clear e8
  go_enter Try.func15, Try.ntmps15
  go_wp2
  go_loopw [5] (fun i wr => ∃ k : Nat, k ≤ a.n.length ∧ i = .int .i64 k ∧ (∃ q, wr = ((w.alloc (.cells #[.int .i64 a.page, .int .i64 a.x, .int .i64 a.y, .int .i64 a.font, .int .i64 a.size, .string a.colour, .string a.name, .string a.stroke, .slice A1 a.n.length c1] 45)).alloc (.cells #[.int .i64 b.page, .int .i64 b.x, .int .i64 b.y, .int .i64 b.font, .int .i64 b.size, .string b.colour, .string b.name, .string b.stroke, .slice A2 b.n.length c2] 45)).drewN q) ∧ a.n.take k = b.n.take k) (fun i _ => a.n.length - (intOf i).toNat)
  case atStart => exact ⟨0, Nat.zero_le _, rfl, ⟨0, rfl⟩, rfl⟩
  case round =>
    obtain ⟨k, hk, rfl, ⟨q, rfl⟩, ht⟩ := hrel
    have Ht := Lib.hid ht
    clear ht
    by_cases hlt : k < a.n.length
    · have hlt2 : k < b.n.length := by have := E8.out; omega
      obtain ⟨b1, o1, rfl, g1⟩ := int_cell (h1.below (HB0.out #[.int .i64 a.page, .int .i64 a.x, .int .i64 a.y, .int .i64 a.font, .int .i64 a.size, .string a.colour, .string a.name, .string a.stroke, .slice A1 a.n.length c1] #[.int .i64 b.page, .int .i64 b.x, .int .i64 b.y, .int .i64 b.font, .int .i64 b.size, .string b.colour, .string b.name, .string b.stroke, .slice A2 b.n.length c2])) hlt
      obtain ⟨b2, o2, rfl, g2⟩ := int_cell (h2.below (HB0.out #[.int .i64 a.page, .int .i64 a.x, .int .i64 a.y, .int .i64 a.font, .int .i64 a.size, .string a.colour, .string a.name, .string a.stroke, .slice (some ⟨b1, o1, none⟩) a.n.length c1] #[.int .i64 b.page, .int .i64 b.x, .int .i64 b.y, .int .i64 b.font, .int .i64 b.size, .string b.colour, .string b.name, .string b.stroke, .slice A2 b.n.length c2])) hlt2
      go_wp2
      go_quiet (fail)
      go_wp2
      · have hne : (a.n[k] != b.n[k]) = true := by assumption
        go_ret
        exact ⟨ret_bool (by rw [decide_eq_false]; intro e; subst e; simp at hne), below_drewN (below_drewN (HB0.out _ _) _) _⟩
      · have he : (a.n[k] != b.n[k]) = false := by assumption
        go_roundw
        case rel => exact ⟨k + 1, by omega, by go_num, ⟨_, rfl⟩, take_succ_eq hlt hlt2 Ht.out (by simpa using he)⟩
        case measure => simp [intOf]; omega
    · go_wp2
      go_ret
      exact ⟨ret_bool (by rw [decide_eq_true ((Mark.ext_iff' a b).2 ⟨E0.out, E1.out, E2.out, E3.out, E4.out, E5.out, E6.out, E7.out, take_full E8.out (by omega) Ht.out⟩)]), below_drewN (HB0.out _ _) _⟩
end Go.Proofs.Ytfejkaemledipaa
