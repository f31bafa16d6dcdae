/- The reference's At, WidthAt. -/
import Derived.Test.YtcahlfafadabaaaRName04
namespace Go.Proofs.Ytcahlfafadabaaa
open Go.RowKit

/-- What At tells. -/
def AtPost (l : Bs) (w : World) (e : Ending) (w' : World) : Prop := Below w.heap.size w w' ∧
  ((asksP l = none ∧ ∃ (k st sz : Int) (t : ByteArray), e = .returned (.tuple #[.agg #[.int .u8 k, .string t, .int .i64 st, .int .i64 sz], .bool false])) ∨
   ∃ (q : AskR) (n : Nat), asksP l = some (q, n) ∧ e = .returned (.tuple #[.agg #[.int .u8 q.kind.toNat, .string (ba q.name), .int .i64 q.step, .int .i64 n], .bool true]))
theorem below_aad2 {w : World} (a b : Obj) : Below w.heap.size w ((w.alloc a).alloc b).drew := below_drew ((((Below.refl _ _).alloc (Nat.le_refl _) _).alloc (by simp) _))
theorem at_short (s : ByteArray) (w : World) (h : (bl s).length < 3) : Calls Try.prog 35 #[.string s] w (AtPost (bl s) w) := by
  have i1 : (s.size : Int) < 3 := by rw [← bl_len]; omega
  have HN : Hid (asksP (bl s) = none) := Lib.hid (by
    match bl s, h with
    | [], _ => rfl
    | [_], _ => rfl
    | [_, _], _ => rfl)
  clear h
  go_enter Try.func35, Try.ntmps35
  go_wp2
  exact bodyPost_ret (v := .tuple #[.agg #[.int .u8 0, .string ⟨#[]⟩, .int .i64 0, .int .i64 0], .bool false]) (by simp [results, Try.results35, go_sem]) rfl ⟨(Below.refl _ _).alloc (Nat.le_refl _) _, .inl ⟨HN.out, _, _, _, _, rfl⟩⟩
set_option maxHeartbeats 1600000 in
theorem at_spec (s : ByteArray) (w : World) (hs : s.size ≤ 1000000) : Calls Try.prog 35 #[.string s] w (AtPost (bl s) w) := by
  by_cases h3 : (bl s).length < 3
  · exact at_short s w h3
  obtain ⟨a, k, q, r, hl⟩ := three_of h3
  · rw [hl]
    have hz : s.size = r.length + 3 := by rw [← bl_len, hl]; rfl
    have i1 : ¬ (s.size : Int) < 3 := by omega
    have i2 : (0 : Int) < (s.size : Int) := by omega
    have i3 : (1 : Int) < (s.size : Int) := by omega
    have i4 : (2 : Int) < (s.size : Int) := by omega
    have i5 : (3 : Int) ≤ (s.size : Int) := by omega
    have i6 : (2 : Int) ≤ (s.size : Int) := by omega
    obtain ⟨hp0, e0⟩ := bl_get (s := s) (i := 0) (c := a) (by rw [hl]; rfl)
    obtain ⟨hp1, e1⟩ := bl_get (s := s) (i := 1) (c := k) (by rw [hl]; rfl)
    obtain ⟨hp2, e2⟩ := bl_get (s := s) (i := 2) (c := q) (by rw [hl]; rfl)
    have HL := Lib.hid hl
    have HZ := Lib.hid hz
    clear hl h3 hz
    cases qa : ((a.toNat : Int) == 92) with
    | false =>
      have na := bneq qa
      have HN : Hid (asksP (a :: k :: q :: r) = none) := Lib.hid (by rw [asksP, if_neg (by rw [b92, qa]; simp)])
      go_enter Try.func35, Try.ntmps35
      go_wp2
      exact bodyPost_ret (v := .tuple #[.agg #[.int .u8 0, .string ⟨#[]⟩, .int .i64 0, .int .i64 0], .bool false]) (by simp [results, Try.results35, go_sem]) rfl ⟨(Below.refl _ _).alloc (Nat.le_refl _) _, .inl ⟨HN.out, _, _, _, _, rfl⟩⟩
    | true =>
      have na := bneq qa
      have HQ : Hid (a = 92) := Lib.hid (by rw [b92]; exact qa)
      cases qk : ((k.toNat : Int) == 110) with
      | true =>
        have nk0 := bneq qk
        have HK : Hid (k = 110 ∨ k = 42 ∨ k = 36) := Lib.hid (.inl (by rw [b110]; exact qk))
        have kk : k = 110 := by rw [b110]; exact qk
        cases qp : ((q.toNat : Int) == 43) with
        | true =>
          have cc : q = 43 := by rw [b43]; exact qp
          have HSZ : Hid (szOf k q = 3) := Lib.hid (by rw [kk, cc]; rfl)
          have HST : Hid (stepOf k q = 1) := Lib.hid (by rw [kk, cc]; rfl)
          clear kk cc
          go_enter Try.func35, Try.ntmps35
          go_wp2_with fail
          refine (rname3 _ _ hs).mono ?_
          rintro e w1 ⟨rfl, hc⟩
          rcases hc with ⟨hn, rfl⟩ | ⟨nm, m, hn, rfl⟩
          · have HN : Hid (asksP (a :: k :: q :: r) = none) := Lib.hid (by rw [asks_def a k q r HQ.out HK.out, HSZ.out, ← HL.out, hn])
            clear hn
            go_wp2_with fail
            go_region
            all_goals
              go_wp2_with fail
              refine bodyPost_ret (v := .tuple #[.agg #[.int .u8 k.toNat, .string ⟨#[]⟩, .int .i64 (1), .int .i64 (-1)], .bool false]) (by simp [results, Try.results35, go_sem]) rfl ⟨below_aad2 _ _, .inl ⟨HN.out, _, _, _, _, rfl⟩⟩
          · have HN : Hid (asksP (a :: k :: q :: r) = some (⟨k, nm, 1⟩, 3 + m)) := Lib.hid (by rw [asks_def a k q r HQ.out HK.out, HSZ.out, HST.out, ← HL.out, hn])
            have m1 : (0 : Int) < 3 + (m : Int) := by omega
            clear hn
            go_wp2_with fail
            go_region
            all_goals
              go_wp2_with fail
              refine bodyPost_ret (v := .tuple #[.agg #[.int .u8 k.toNat, .string (ba nm), .int .i64 (1), .int .i64 (3 + m)], .bool true]) (by simp [results, Try.results35, go_sem]) rfl ⟨below_aad2 _ _, .inr ⟨_, _, HN.out, by simp⟩⟩
        | false =>
          have nc : ¬ q = 43 := by rw [b43, qp]; simp
          cases qm : ((q.toNat : Int) == 45) with
          | true =>
            have cc : q = 45 := by rw [b45]; exact qm
            have HSZ : Hid (szOf k q = 3) := Lib.hid (by rw [kk, cc]; rfl)
            have HST : Hid (stepOf k q = -1) := Lib.hid (by rw [kk, cc]; rfl)
            clear kk cc nc
            go_enter Try.func35, Try.ntmps35
            go_wp2_with fail
            refine (rname3 _ _ hs).mono ?_
            rintro e w1 ⟨rfl, hc⟩
            rcases hc with ⟨hn, rfl⟩ | ⟨nm, m, hn, rfl⟩
            · have HN : Hid (asksP (a :: k :: q :: r) = none) := Lib.hid (by rw [asks_def a k q r HQ.out HK.out, HSZ.out, ← HL.out, hn])
              clear hn
              go_wp2_with fail
              go_region
              all_goals
                go_wp2_with fail
                refine bodyPost_ret (v := .tuple #[.agg #[.int .u8 k.toNat, .string ⟨#[]⟩, .int .i64 (-1), .int .i64 (-1)], .bool false]) (by simp [results, Try.results35, go_sem]) rfl ⟨below_aad2 _ _, .inl ⟨HN.out, _, _, _, _, rfl⟩⟩
            · have HN : Hid (asksP (a :: k :: q :: r) = some (⟨k, nm, -1⟩, 3 + m)) := Lib.hid (by rw [asks_def a k q r HQ.out HK.out, HSZ.out, HST.out, ← HL.out, hn])
              have m1 : (0 : Int) < 3 + (m : Int) := by omega
              clear hn
              go_wp2_with fail
              go_region
              all_goals
                go_wp2_with fail
                refine bodyPost_ret (v := .tuple #[.agg #[.int .u8 k.toNat, .string (ba nm), .int .i64 (-1), .int .i64 (3 + m)], .bool true]) (by simp [results, Try.results35, go_sem]) rfl ⟨below_aad2 _ _, .inr ⟨_, _, HN.out, by simp⟩⟩
          | false =>
            have nm : ¬ q = 45 := by rw [b45, qm]; simp
            have HSZ : Hid (szOf k q = 2) := Lib.hid (by rw [szOf, if_neg (fun h => h.2.elim nc nm)])
            have HST : Hid (stepOf k q = 0) := Lib.hid (by rw [stepOf, if_pos kk, if_neg nc, if_neg nm])
            clear kk nc nm
            go_enter Try.func35, Try.ntmps35
            go_wp2_with fail
            refine (rname2 _ _ hs).mono ?_
            rintro e w1 ⟨rfl, hc⟩
            rcases hc with ⟨hn, rfl⟩ | ⟨nm, m, hn, rfl⟩
            · have HN : Hid (asksP (a :: k :: q :: r) = none) := Lib.hid (by rw [asks_def a k q r HQ.out HK.out, HSZ.out, ← HL.out, hn])
              clear hn
              go_wp2_with fail
              go_region
              all_goals
                go_wp2_with fail
                refine bodyPost_ret (v := .tuple #[.agg #[.int .u8 k.toNat, .string ⟨#[]⟩, .int .i64 (0), .int .i64 (-1)], .bool false]) (by simp [results, Try.results35, go_sem]) rfl ⟨below_aad2 _ _, .inl ⟨HN.out, _, _, _, _, rfl⟩⟩
            · have HN : Hid (asksP (a :: k :: q :: r) = some (⟨k, nm, 0⟩, 2 + m)) := Lib.hid (by rw [asks_def a k q r HQ.out HK.out, HSZ.out, HST.out, ← HL.out, hn])
              have m1 : (0 : Int) < 2 + (m : Int) := by omega
              clear hn
              go_wp2_with fail
              go_region
              all_goals
                go_wp2_with fail
                refine bodyPost_ret (v := .tuple #[.agg #[.int .u8 k.toNat, .string (ba nm), .int .i64 (0), .int .i64 (2 + m)], .bool true]) (by simp [results, Try.results35, go_sem]) rfl ⟨below_aad2 _ _, .inr ⟨_, _, HN.out, by simp⟩⟩
      | false =>
        have nk0 := bneq qk
        have nk : ¬ k = 110 := by rw [b110, qk]; simp
        have HSZ : Hid (szOf k q = 2) := Lib.hid (by rw [szOf, if_neg (fun h => nk h.1)])
        have HST : Hid (stepOf k q = 0) := Lib.hid (by rw [stepOf, if_neg nk])
        cases qs : ((k.toNat : Int) == 42) with
        | true =>
          have ns0 := bneq qs
          have HK : Hid (k = 110 ∨ k = 42 ∨ k = 36) := Lib.hid (.inr (.inl (by rw [b42]; exact qs)))
          clear nk
          go_enter Try.func35, Try.ntmps35
          go_wp2_with fail
          refine (rname2 _ _ hs).mono ?_
          rintro e w1 ⟨rfl, hc⟩
          rcases hc with ⟨hn, rfl⟩ | ⟨nm, m, hn, rfl⟩
          · have HN : Hid (asksP (a :: k :: q :: r) = none) := Lib.hid (by rw [asks_def a k q r HQ.out HK.out, HSZ.out, ← HL.out, hn])
            clear hn
            go_wp2_with fail
            go_region
            all_goals
              go_wp2_with fail
              refine bodyPost_ret (v := .tuple #[.agg #[.int .u8 k.toNat, .string ⟨#[]⟩, .int .i64 (0), .int .i64 (-1)], .bool false]) (by simp [results, Try.results35, go_sem]) rfl ⟨below_aad2 _ _, .inl ⟨HN.out, _, _, _, _, rfl⟩⟩
          · have HN : Hid (asksP (a :: k :: q :: r) = some (⟨k, nm, 0⟩, 2 + m)) := Lib.hid (by rw [asks_def a k q r HQ.out HK.out, HSZ.out, HST.out, ← HL.out, hn])
            have m1 : (0 : Int) < 2 + (m : Int) := by omega
            clear hn
            go_wp2_with fail
            go_region
            all_goals
              go_wp2_with fail
              refine bodyPost_ret (v := .tuple #[.agg #[.int .u8 k.toNat, .string (ba nm), .int .i64 (0), .int .i64 (2 + m)], .bool true]) (by simp [results, Try.results35, go_sem]) rfl ⟨below_aad2 _ _, .inr ⟨_, _, HN.out, by simp⟩⟩
        | false =>
          have ns0 := bneq qs
          cases qd : ((k.toNat : Int) == 36) with
          | true =>
            have nd0 := bneq qd
            have HK : Hid (k = 110 ∨ k = 42 ∨ k = 36) := Lib.hid (.inr (.inr (by rw [b36]; exact qd)))
            clear nk
            go_enter Try.func35, Try.ntmps35
            go_wp2_with fail
            refine (rname2 _ _ hs).mono ?_
            rintro e w1 ⟨rfl, hc⟩
            rcases hc with ⟨hn, rfl⟩ | ⟨nm, m, hn, rfl⟩
            · have HN : Hid (asksP (a :: k :: q :: r) = none) := Lib.hid (by rw [asks_def a k q r HQ.out HK.out, HSZ.out, ← HL.out, hn])
              clear hn
              go_wp2_with fail
              go_region
              all_goals
                go_wp2_with fail
                refine bodyPost_ret (v := .tuple #[.agg #[.int .u8 k.toNat, .string ⟨#[]⟩, .int .i64 (0), .int .i64 (-1)], .bool false]) (by simp [results, Try.results35, go_sem]) rfl ⟨below_aad2 _ _, .inl ⟨HN.out, _, _, _, _, rfl⟩⟩
            · have HN : Hid (asksP (a :: k :: q :: r) = some (⟨k, nm, 0⟩, 2 + m)) := Lib.hid (by rw [asks_def a k q r HQ.out HK.out, HSZ.out, HST.out, ← HL.out, hn])
              have m1 : (0 : Int) < 2 + (m : Int) := by omega
              clear hn
              go_wp2_with fail
              go_region
              all_goals
                go_wp2_with fail
                refine bodyPost_ret (v := .tuple #[.agg #[.int .u8 k.toNat, .string (ba nm), .int .i64 (0), .int .i64 (2 + m)], .bool true]) (by simp [results, Try.results35, go_sem]) rfl ⟨below_aad2 _ _, .inr ⟨_, _, HN.out, by simp⟩⟩
          | false =>
            have nd0 := bneq qd
            have HN : Hid (asksP (a :: k :: q :: r) = none) := Lib.hid (by
              rw [asksP, if_neg]
              rintro ⟨_, h | h | h⟩
              · exact nk h
              · rw [b42, qs] at h; cases h
              · rw [b36, qd] at h; cases h)
            clear nk
            go_enter Try.func35, Try.ntmps35
            go_wp2
            exact bodyPost_ret (v := .tuple #[.agg #[.int .u8 0, .string ⟨#[]⟩, .int .i64 0, .int .i64 0], .bool false]) (by simp [results, Try.results35, go_sem]) rfl ⟨(Below.refl _ _).alloc (Nat.le_refl _) _, .inl ⟨HN.out, _, _, _, _, rfl⟩⟩
/-- What WidthAt tells. -/
def RWidPost (l : Bs) (w : World) (e : Ending) (w' : World) : Prop := (∃ n, w' = w.drewN n) ∧
  ((widthP l = none ∧ e = .returned (.tuple #[.string ⟨#[]⟩, .int .i64 (-1)])) ∨
   ∃ (tx : Bs) (n : Nat), widthP l = some (tx, n) ∧ e = .returned (.tuple #[.string (ba tx), .int .i64 n]))
end Go.Proofs.Ytcahlfafadabaaa
