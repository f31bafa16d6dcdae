/- The reference's WidthAt, IsLine. -/
import Derived.Test.YtcahlfafadabaaaRAt04
namespace Go.Proofs.Ytcahlfafadabaaa
open Go.RowKit

theorem tw_stop {α : Type} {p : α → Bool} {r : List α} {k : Nat} (h : k < r.length) (ha : (r.take k).all p = true) (hc : p r[k] = false) : r.takeWhile p = r.take k := by
  induction r generalizing k with
  | nil => exact absurd h (Nat.not_lt_zero _)
  | cons a r ih =>
    cases k with
    | zero =>
      simp only [List.getElem_cons_zero] at hc
      rw [List.takeWhile_cons, hc]; rfl
    | succ k =>
      rw [List.take_succ_cons, List.all_cons, Bool.and_eq_true] at ha
      rw [List.getElem_cons_succ] at hc
      rw [List.takeWhile_cons, if_pos ha.1, List.take_succ_cons, ih (by simpa using h) ha.2 hc]
theorem tw_all {α : Type} {p : α → Bool} {r : List α} (ha : r.all p = true) : r.takeWhile p = r := by
  induction r with
  | nil => rfl
  | cons a r ih =>
    rw [List.all_cons, Bool.and_eq_true] at ha
    rw [List.takeWhile_cons, if_pos ha.1, ih ha.2]
theorem rwid_short (s : ByteArray) (w : World) (h : (bl s).length < 4) : Calls Try.prog 34 #[.string s] w (RWidPost (bl s) w) := by
  have i1 : (s.size : Int) < 4 := by rw [← bl_len]; omega
  have HN : Hid (widthP (bl s) = none) := Lib.hid (by
    match bl s, h with
    | [], _ => rfl
    | [_], _ => rfl
    | [_, _], _ => rfl
    | [a, b, q], _ => rw [widthP]; exact if_neg (fun h => absurd h.2.2.2 (Nat.not_lt_zero _)))
  clear h
  go_enter Try.func34, Try.ntmps34
  go_wp2
  go_ret2
  exact ⟨⟨0, rfl⟩, .inl ⟨HN.out, rfl⟩⟩
theorem drewN_add (w : World) (a b : Nat) : (w.drewN a).drewN b = w.drewN (a + b) := dn2 w a b
set_option maxHeartbeats 1600000 in
theorem rwid_spec (s : ByteArray) (w : World) (hs : s.size ≤ 1000000) : Calls Try.prog 34 #[.string s] w (RWidPost (bl s) w) := by
  by_cases h4 : (bl s).length < 4
  · exact rwid_short s w h4
  obtain ⟨a, b, q, x, r, hl⟩ := four_of h4
  · rw [hl]
    have hz : s.size = (x :: r).length + 3 := by rw [← bl_len, hl]; rfl
    have hget : ∀ j, (bl s)[3 + j]? = (x :: r)[j]? := fun j => by
      rw [hl, Nat.add_comm]
      rfl
    have hcut : ∀ j, bl (s.extract 3 (3 + j)) = (x :: r).take j := fun j => by rw [bl_extract, hl, Nat.add_sub_cancel_left]; rfl
    have i1 : ¬ (s.size : Int) < 4 := by simp at hz; omega
    have i2 : (0 : Int) < (s.size : Int) := by omega
    have i3 : (1 : Int) < (s.size : Int) := by omega
    have i4 : (2 : Int) < (s.size : Int) := by omega
    have i5 : (3 : Int) ≤ (s.size : Int) := by omega
    obtain ⟨hp0, e0⟩ := bl_get (s := s) (i := 0) (c := a) (by rw [hl]; rfl)
    obtain ⟨hp1, e1⟩ := bl_get (s := s) (i := 1) (c := b) (by rw [hl]; rfl)
    obtain ⟨hp2, e2⟩ := bl_get (s := s) (i := 2) (c := q) (by rw [hl]; rfl)
    have HL := Lib.hid hl
    have HZ := Lib.hid hz
    have hdef : widthP (a :: b :: q :: x :: r) = if a = 92 ∧ b = 119 ∧ q ≠ 92 ∧ (widTo q (x :: r)).length < (x :: r).length then some (widTo q (x :: r), (widTo q (x :: r)).length + 4) else none := by rw [widthP]
    clear hl h4 hz
    cases qa : ((a.toNat : Int) == 92) with
    | false =>
      have na := bneq qa
      have HN : Hid (widthP (a :: b :: q :: x :: r) = none) := Lib.hid (by rw [hdef, if_neg (by rw [b92, qa]; simp)])
      clear hdef hget hcut
      go_enter Try.func34, Try.ntmps34
      go_wp2
      go_ret2
      exact ⟨⟨0, rfl⟩, .inl ⟨HN.out, rfl⟩⟩
    | true =>
      have na := bneq qa
      cases qb : ((b.toNat : Int) == 119) with
      | false =>
        have nb := bneq qb
        have HN : Hid (widthP (a :: b :: q :: x :: r) = none) := Lib.hid (by rw [hdef, if_neg (by rw [b119, qb]; simp)])
        clear hdef hget hcut
        go_enter Try.func34, Try.ntmps34
        go_wp2
        go_ret2
        exact ⟨⟨0, rfl⟩, .inl ⟨HN.out, rfl⟩⟩
      | true =>
        have nb := bneq qb
        cases qq : ((q.toNat : Int) == 92) with
        | true =>
          have HN : Hid (widthP (a :: b :: q :: x :: r) = none) := Lib.hid (by rw [hdef, if_neg (by rw [ne_eq, b92 (c := q), qq]; simp)])
          clear hdef hget hcut
          go_enter Try.func34, Try.ntmps34
          go_wp2
          go_ret2
          exact ⟨⟨0, rfl⟩, .inl ⟨HN.out, rfl⟩⟩
        | false =>
          have hdef : widthP (a :: b :: q :: x :: r) = if (widTo q (x :: r)).length < (x :: r).length then some (widTo q (x :: r), (widTo q (x :: r)).length + 4) else none := by
            rw [hdef]
            by_cases h : (widTo q (x :: r)).length < (x :: r).length
            · rw [if_pos ⟨by rw [b92]; exact qa, by rw [b119]; exact qb, by rw [ne_eq, b92, qq]; simp, h⟩, if_pos h]
            · rw [if_neg (fun h' => h h'.2.2.2), if_neg h]
          generalize x :: r = R at *
          have HD := Lib.hid hdef
          have HG := Lib.hid hget
          have HC := Lib.hid hcut
          clear hdef hget hcut
          have hsz := HZ.out
          go_enter Try.func34, Try.ntmps34
          go_wp2_with fail
          go_loopw [4] (fun v wr => (∃ n, wr = w.drewN n) ∧ ∃ (k : Nat), k ≤ R.length ∧ v = .int .i64 (3 + (k : Int)) ∧ (R.take k).all (· != q) = true) (fun v _ => R.length + 3 - (intOf v).toNat)
          case atStart => exact ⟨⟨0, rfl⟩, 0, Nat.zero_le _, rfl, rfl⟩
          case round =>
            obtain ⟨hw, k, hk, rfl, ha⟩ := hrel
            have HW := Lib.hid hw
            clear hw
            by_cases hlt : k < R.length
            · obtain ⟨hi, hg⟩ := bl_get (s := s) (i := 3 + k) (c := R[k]) (by rw [HG.out]; exact List.getElem?_eq_getElem hlt)
              have HT := Lib.hid (take_snoc hlt)
              have HA := Lib.hid ha
              have HS := Lib.hid (fun h => tw_stop (p := (· != q)) hlt ha h)
              generalize R[k] = c' at *
              have i1 : (3 : Int) + (k : Int) < (s.size : Int) := by omega
              have i2 : (0 : Int) ≤ (3 : Int) + (k : Int) := by omega
              have i3 : ((3 : Int) + (k : Int)).toNat = 3 + k := by omega
              have i5 : (3 : Int) + (k : Int) ≤ (s.size : Int) := by omega
              have i6 : (3 : Int) ≤ (3 : Int) + (k : Int) := by omega
              clear ha
              by_cases hcq : c' = q
              · have HX := HS.out (by rw [hcq]; simp)
                have hXX : widTo q R = R.take k := HX
                have hkl : (R.take k).length = k := by rw [List.length_take]; omega
                have HN : Hid (widthP (a :: b :: q :: R) = some (R.take k, k + 4)) := Lib.hid (by rw [HD.out, hXX, hkl, if_pos hlt])
                have HE : Hid (s.extract 3 (3 + k) = ba (R.take k)) := Lib.hid (ba_of (HC.out k))
                subst hcq
                clear HX hXX hkl
                go_wp2_with fail
                go_quiet (fail)
                go_wp2
                go_ret2
                obtain ⟨n, hw⟩ := HW.out
                exact ⟨⟨_, by rw [hw]; exact drewN_add _ _ _⟩, .inr ⟨_, _, HN.out, ret_str2 HE.out (by omega)⟩⟩
              · have nq : ((c'.toNat : Int) == (q.toNat : Int)) = false := by
                  rw [beq_eq_false_iff_ne]
                  intro e
                  exact hcq (UInt8.toNat_inj.1 (by omega))
                have HQ : Hid ((c' != q) = true) := Lib.hid (by rw [bne_iff_ne]; exact hcq)
                clear hcq
                go_wp2_with fail
                go_quiet (fail)
                go_wp2_with fail
                go_roundw
                case rel =>
                  obtain ⟨n, hw⟩ := HW.out
                  exact ⟨⟨_, by rw [hw]; exact drewN_add _ _ _⟩, k + 1, by omega, by go_num, by rw [HT.out, List.all_append, HA.out, List.all_cons, HQ.out]; rfl⟩
                case measure => simp [intOf]; omega
            · have hk' : k = R.length := by omega
              rw [hk', List.take_length] at ha
              have HN : Hid (widthP (a :: b :: q :: R) = none) := Lib.hid (by rw [HD.out, show widTo q R = R from tw_all ha, if_neg (Nat.lt_irrefl _)])
              have i1 : ¬ (3 : Int) + (k : Int) < (s.size : Int) := by omega
              clear ha hk'
              go_wp2
              go_ret2
              exact ⟨HW.out, .inl ⟨HN.out, rfl⟩⟩
end Go.Proofs.Ytcahlfafadabaaa
