/- expand.asks, expand.width: what stands at a text's front. -/
import Derived.Test.YtcahlfafadabaaaName04b
namespace Go.Proofs.Ytcahlfafadabaaa
open Go.RowKit

/-- What asks tells: the call's parts, and whether there is one. -/
def AsksPost (l : Bs) (w : World) (e : Ending) (w' : World) : Prop := Below w.heap.size w w' ∧
  ((asksP l = none ∧ ∃ (k st sz : Int) (t : ByteArray), e = .returned (.tuple #[.agg #[.int .u8 k, .string t, .int .i64 st, .int .i64 sz], .bool false])) ∨
   ∃ (q : AskR) (n : Nat) (t : ByteArray), asksP l = some (q, n) ∧ bl t = q.name ∧ e = .returned (.tuple #[.agg #[.int .u8 q.kind.toNat, .string t, .int .i64 q.step, .int .i64 n], .bool true]))
def WidPost (l : Bs) (w : World) (e : Ending) (w' : World) : Prop := w.drewN 0 = w ∧ ∃ q, w' = w.drewN q ∧
  ((widthP l = none ∧ e = .returned (.tuple #[.string ⟨#[]⟩, .int .i64 0])) ∨
   ∃ (tx : Bs) (n : Nat) (t : ByteArray), widthP l = some (tx, n) ∧ bl t = tx ∧ e = .returned (.tuple #[.string t, .int .i64 n]))
theorem b92 {c : UInt8} : (c = 92) = (((c.toNat : Int) == 92) = true) := propext (byteEq (n := 92) (by omega))
theorem b119 {c : UInt8} : (c = 119) = (((c.toNat : Int) == 119) = true) := propext (byteEq (n := 119) (by omega))
theorem b110 {c : UInt8} : (c = 110) = (((c.toNat : Int) == 110) = true) := propext (byteEq (n := 110) (by omega))
theorem b42 {c : UInt8} : (c = 42) = (((c.toNat : Int) == 42) = true) := propext (byteEq (n := 42) (by omega))
theorem b36 {c : UInt8} : (c = 36) = (((c.toNat : Int) == 36) = true) := propext (byteEq (n := 36) (by omega))
theorem bneq {c : UInt8} {n : Int} {b : Bool} (h : ((c.toNat : Int) == n) = b) : ((c.toNat : Int) != n) = !b := by rw [← h]; rfl
theorem drewN0 (w : World) : w.drewN 0 = w := rfl
theorem wid_short (s : ByteArray) (w : World) (h : (bl s).length < 4) : Calls Try.prog 31 #[.string s] w (WidPost (bl s) w) := by
  have i1 : (s.size : Int) < 4 := by rw [← bl_len]; omega
  have HN : Hid (widthP (bl s) = none) := Lib.hid (by
    match bl s, h with
    | [], _ => rfl
    | [_], _ => rfl
    | [_, _], _ => rfl
    | [a, b, q], _ => rw [widthP]; exact if_neg (fun h => absurd h.2.2.2 (Nat.not_lt_zero _)))
  clear h
  go_enter Try.func31, Try.ntmps31
  go_wp2
  go_ret2
  exact ⟨rfl, 0, rfl, .inl ⟨HN.out, rfl⟩⟩
theorem four_of {l : Bs} (h : ¬ l.length < 4) : ∃ a b q x r, l = a :: b :: q :: x :: r := by
  match l, h with
  | [], h => simp at h
  | [_], h => simp at h
  | [_, _], h => simp at h
  | [_, _, _], h => simp at h
  | a :: b :: q :: x :: r, _ => exact ⟨a, b, q, x, r, rfl⟩
theorem three_of {l : Bs} (h : ¬ l.length < 3) : ∃ a b q r, l = a :: b :: q :: r := by
  match l, h with
  | [], h => simp at h
  | [_], h => simp at h
  | [_, _], h => simp at h
  | a :: b :: q :: r, _ => exact ⟨a, b, q, r, rfl⟩
theorem u8_back (q : UInt8) : ((q.toNat : Nat) : Int).toNat.toUInt8 = q := by simp
set_option maxHeartbeats 1600000 in
theorem width_spec (s : ByteArray) (w : World) (hs : s.size ≤ 1000000) : Calls Try.prog 31 #[.string s] w (WidPost (bl s) w) := by
  by_cases h4 : (bl s).length < 4
  · exact wid_short s w h4
  obtain ⟨a, b, q, x, r, hl⟩ := four_of h4
  · rw [hl]
    have hz : s.size = r.length + 4 := by rw [← bl_len, hl]; rfl
    have i1 : ¬ (s.size : Int) < 4 := by omega
    have i2 : (0 : Int) < (s.size : Int) := by omega
    have i3 : (1 : Int) < (s.size : Int) := by omega
    have i4 : (2 : Int) < (s.size : Int) := by omega
    have i5 : (3 : Int) ≤ (s.size : Int) := by omega
    obtain ⟨hp0, e0⟩ := bl_get (s := s) (i := 0) (c := a) (by rw [hl]; rfl)
    obtain ⟨hp1, e1⟩ := bl_get (s := s) (i := 1) (c := b) (by rw [hl]; rfl)
    obtain ⟨hp2, e2⟩ := bl_get (s := s) (i := 2) (c := q) (by rw [hl]; rfl)
    have HL := Lib.hid hl
    have HZ := Lib.hid hz
    have hdef : widthP (a :: b :: q :: x :: r) = if a = 92 ∧ b = 119 ∧ q ≠ 92 ∧ (widTo q (x :: r)).length < (x :: r).length then some (widTo q (x :: r), (widTo q (x :: r)).length + 4) else none := by rw [widthP]
    clear hl h4 hz
    cases qa : ((a.toNat : Int) == 92) with
    | false =>
      have na := bneq qa
      have HN : Hid (widthP (a :: b :: q :: x :: r) = none) := Lib.hid (by rw [hdef, if_neg (by rw [b92, qa]; simp)])
      clear hdef
      go_enter Try.func31, Try.ntmps31
      go_wp2
      go_ret2
      exact ⟨rfl, 0, rfl, .inl ⟨HN.out, rfl⟩⟩
    | true =>
      have na := bneq qa
      cases qb : ((b.toNat : Int) == 119) with
      | false =>
        have nb := bneq qb
        have HN : Hid (widthP (a :: b :: q :: x :: r) = none) := Lib.hid (by rw [hdef, if_neg (by rw [b119, qb]; simp)])
        clear hdef
        go_enter Try.func31, Try.ntmps31
        go_wp2
        go_ret2
        exact ⟨rfl, 0, rfl, .inl ⟨HN.out, rfl⟩⟩
      | true =>
        have nb := bneq qb
        cases qq : ((q.toNat : Int) == 92) with
        | true =>
          have HN : Hid (widthP (a :: b :: q :: x :: r) = none) := Lib.hid (by rw [hdef, if_neg (by rw [ne_eq, b92 (c := q), qq]; simp)])
          clear hdef
          go_enter Try.func31, Try.ntmps31
          go_wp2
          go_ret2
          exact ⟨rfl, 0, rfl, .inl ⟨HN.out, rfl⟩⟩
        | false =>
          have hx3 : (s.extract 3 s.size).data.toList = x :: r := by
            have := bl_to_end s 3
            rw [HL.out] at this; exact this
          have hix : ∀ z, Lib.indexByte (x :: r) q = z → ∀ w, Calls Try.prog 26 #[.string (s.extract 3 s.size), .int .u8 q.toNat] w fun e w' => e = .returned (.int .i64 z) ∧ w' = w := by
            intro z hz w
            have := Try.strings_IndexByte (s.extract 3 s.size) (q.toNat : Int) w
            rw [hx3, u8_back, hz] at this
            exact this
          rcases indexByte_first (x :: r) q with ⟨hx, hlen⟩ | ⟨hx, hlen⟩
          · have HN : Hid (widthP (a :: b :: q :: x :: r) = none) := Lib.hid (by rw [hdef, if_neg (fun h => by have := h.2.2.2; unfold widTo at this; omega)])
            have HC := Lib.hid (hix _ hx)
            clear hdef hix hx3 hx hlen
            go_enter Try.func31, Try.ntmps31
            go_wp2_with fail
            go_quiet ((go_at_call 26; exact Calls.quiet_of_same (HC.out _)))
            go_wp2
            go_ret2
            exact ⟨rfl, _, rfl, .inl ⟨HN.out, rfl⟩⟩
          · have HN : Hid (widthP (a :: b :: q :: x :: r) = some (widTo q (x :: r), (widTo q (x :: r)).length + 4)) := Lib.hid (by rw [hdef, if_pos ⟨by rw [b92]; exact qa, by rw [b119]; exact qb, by rw [ne_eq, b92, qq]; simp, hlen⟩])
            have hnm : (x :: r).takeWhile (· != q) = widTo q (x :: r) := rfl
            rw [hnm] at hx hlen
            have hXX : bl (s.extract 3 (3 + (widTo q (x :: r)).length)) = widTo q (x :: r) := by
              rw [bl_extract, HL.out, Nat.add_sub_cancel_left]
              exact (List.prefix_iff_eq_take.1 (List.takeWhile_prefix _)).symm
            obtain ⟨m, hm⟩ : ∃ m, (widTo q (x :: r)).length = m := ⟨_, rfl⟩
            rw [hm] at hx hlen hXX HN
            have HX := Lib.hid hXX
            have HC := Lib.hid (hix _ hx)
            have hsz := HZ.out
            simp only [List.length_cons] at hlen
            have j1 : ¬ (m : Int) < 0 := by omega
            have j2 : (3 : Int) ≤ 3 + (m : Int) := by omega
            have j3 : 3 + (m : Int) ≤ (s.size : Int) := by omega
            have j4 : (0 : Int) ≤ 3 + (m : Int) := by omega
            have j5 : m ≤ 1000000 := by omega
            clear hdef hix hx3 hx hlen hnm hm hXX hsz
            go_enter Try.func31, Try.ntmps31
            go_wp2_with fail
            go_quiet ((go_at_call 26; exact Calls.quiet_of_same (HC.out _)))
            go_wp2
            go_ret2
            exact ⟨rfl, _, rfl, .inr ⟨_, _, _, HN.out, HX.out, rfl⟩⟩
end Go.Proofs.Ytcahlfafadabaaa
