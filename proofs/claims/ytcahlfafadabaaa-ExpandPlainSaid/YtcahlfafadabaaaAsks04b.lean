/- expand.asks. -/
import Derived.Test.YtcahlfafadabaaaAsks04
namespace Go.Proofs.Ytcahlfafadabaaa
open Go.RowKit

theorem below_trans' {B : Nat} {w w1 w2 : World} (h : Below B w w1) (h2 : Below w1.heap.size w1 w2) (hB : B ≤ w1.heap.size) : Below B w w2 := h.trans (h2.mono hB)

theorem two_blocks {w w1 : World} {x y : Array Value} {t : TypeId} (hb : Below (((w.alloc (.cells x t)).alloc (.cells y t)).heap.size) ((w.alloc (.cells x t)).alloc (.cells y t)) w1) :
    w1.heap[w.heap.size]? = some (.cells x t (0, 0)) ∧ w1.heap[w.heap.size + 1]? = some (.cells y t (0, 0)) ∧ Below w.heap.size w w1 ∧ w.heap.size + 1 < w1.heap.size := by
  have hs : (w.alloc (.cells x t)).heap.size = w.heap.size + 1 := by simp
  have hs2 : ((w.alloc (.cells x t)).alloc (.cells y t)).heap.size = w.heap.size + 2 := by simp
  refine ⟨?_, ?_, below_trans' (((Below.refl _ _).alloc (Nat.le_refl _) _).alloc (by simp) _) hb (by simp; omega), by have := hb.size; omega⟩
  · rw [hb.block _ (by omega)]
    show ((w.alloc (.cells x t)).heap.push _)[w.heap.size]? = _
    rw [Array.getElem?_push, if_neg (by omega)]
    show (w.heap.push _)[w.heap.size]? = _
    rw [Array.getElem?_push, if_pos rfl]
  · rw [hb.block _ (by omega)]
    show ((w.alloc (.cells x t)).heap.push _)[w.heap.size + 1]? = _
    rw [Array.getElem?_push, if_pos hs.symm]
theorem cellOf {w : World} {b : Nat} {c : Array Value} {t : TypeId} {f : Nat × Nat} (h : w.heap[b]? = some (.cells c t f)) (i : Nat) : w.cell? ⟨b, i, none⟩ = c[i]? := by simp [World.cell?, h]
theorem frozOf {w : World} {b : Nat} {c : Array Value} {t : TypeId} (h : w.heap[b]? = some (.cells c t (0, 0))) (i : Nat) : w.frozen? ⟨b, i, none⟩ = false := by simp [World.frozen?, h]
theorem asks_short (s : ByteArray) (w : World) (h : (bl s).length < 3) : Calls Try.prog 28 #[.string s] w (AsksPost (bl s) w) := by
  have i1 : (s.size : Int) < 3 := by rw [← bl_len]; omega
  have HN : Hid (asksP (bl s) = none) := Lib.hid (by
    match bl s, h with
    | [], _ => rfl
    | [_], _ => rfl
    | [_, _], _ => rfl)
  clear h
  go_enter Try.func28, Try.ntmps28
  go_wp2
  exact bodyPost_ret (v := .tuple #[.agg #[.int .u8 0, .string ⟨#[]⟩, .int .i64 0, .int .i64 0], .bool false]) (by simp [results, Try.results28, go_sem]) rfl ⟨(Below.refl _ _).alloc (Nat.le_refl _) _, .inl ⟨HN.out, _, _, _, _, rfl⟩⟩
theorem asks_def (a k c : UInt8) (r : Bs) (ha : a = 92) (hk : k = 110 ∨ k = 42 ∨ k = 36) : asksP (a :: k :: c :: r) = match nameP ((a :: k :: c :: r).drop (szOf k c)) with
      | some (nm, n) => some (⟨k, nm, stepOf k c⟩, szOf k c + n)
      | none => none := by
  rw [asksP, if_pos ⟨ha, hk⟩]
  rfl
theorem nameIs_le {l nm : Bs} {n : Int} (h : NameIs l nm n) (hl : l.length ≤ 2000000) : n ≤ 2000000 := by
  obtain ⟨h1, h2⟩ := h
  split at h1
  · omega
  · have := (nameP_le h1).2.1
    omega
theorem asks_end {s t : ByteArray} {a k c : UInt8} {r : Bs} {n : Int} {sz : Nat} {st : Int} (ha : a = 92) (hk : k = 110 ∨ k = 42 ∨ k = 36) (hsz : szOf k c = sz) (hst : stepOf k c = st) (hl : bl s = a :: k :: c :: r) (hn : NameIs (bl (s.extract sz s.size)) (bl t) n) :
    (asksP (a :: k :: c :: r) = none ∧ ∃ (k' st' sz' : Int) (t' : ByteArray), Ending.returned (.tuple #[.agg #[.int .u8 k.toNat, .string t, .int .i64 st, .int .i64 ((sz : Int) + n)], .bool (decide (0 < n))]) = .returned (.tuple #[.agg #[.int .u8 k', .string t', .int .i64 st', .int .i64 sz'], .bool false])) ∨
     ∃ (q : AskR) (m : Nat) (t' : ByteArray), asksP (a :: k :: c :: r) = some (q, m) ∧ bl t' = q.name ∧ Ending.returned (.tuple #[.agg #[.int .u8 k.toNat, .string t, .int .i64 st, .int .i64 ((sz : Int) + n)], .bool (decide (0 < n))]) = .returned (.tuple #[.agg #[.int .u8 q.kind.toNat, .string t', .int .i64 q.step, .int .i64 m], .bool true]) := by
  rw [asks_def a k c r ha hk, hsz, hst]
  rw [bl_to_end, hl] at hn
  obtain ⟨h1, h2⟩ := hn
  by_cases h0 : n = 0
  · rw [if_pos h0] at h1
    rw [h1]
    left
    exact ⟨rfl, _, _, _, _, by rw [decide_eq_false (by omega)]⟩
  · rw [if_neg h0] at h1
    rw [h1]
    right
    refine ⟨_, _, t, rfl, rfl, ?_⟩
    rw [decide_eq_true (by omega), show ((sz + n.toNat : Nat) : Int) = (sz : Int) + n from by omega]
set_option maxHeartbeats 1600000 in
theorem asks_spec (s : ByteArray) (w : World) (hs : s.size ≤ 1000000) : Calls Try.prog 28 #[.string s] w (AsksPost (bl s) w) := by
  by_cases h3 : (bl s).length < 3
  · exact asks_short s w h3
  obtain ⟨a, k, q, r, hl⟩ := three_of h3
  · rw [hl]
    have hz : s.size = r.length + 3 := by rw [← bl_len, hl]; rfl
    have i1 : ¬ (s.size : Int) < 3 := by omega
    have i2 : (0 : Int) < (s.size : Int) := by omega
    have i3 : (1 : Int) < (s.size : Int) := by omega
    have i4 : (2 : Int) < (s.size : Int) := by omega
    have i5 : (3 : Int) ≤ (s.size : Int) := by omega
    have i6 : (2 : Int) ≤ (s.size : Int) := by omega
    obtain ⟨hp0, e0⟩ := bl_get (s := s) (i := 0) (c := a) (by rw [hl]; rfl)
    obtain ⟨hp1, e1⟩ := bl_get (s := s) (i := 1) (c := k) (by rw [hl]; rfl)
    obtain ⟨hp2, e2⟩ := bl_get (s := s) (i := 2) (c := q) (by rw [hl]; rfl)
    have HL := Lib.hid hl
    have HZ := Lib.hid hz
    clear hl h3 hz
    cases qa : ((a.toNat : Int) == 92) with
    | false =>
      have na := bneq qa
      have HN : Hid (asksP (a :: k :: q :: r) = none) := Lib.hid (by rw [asksP, if_neg (by rw [b92, qa]; simp)])
      go_enter Try.func28, Try.ntmps28
      go_wp2
      exact bodyPost_ret (v := .tuple #[.agg #[.int .u8 0, .string ⟨#[]⟩, .int .i64 0, .int .i64 0], .bool false]) (by simp [results, Try.results28, go_sem]) rfl ⟨(Below.refl _ _).alloc (Nat.le_refl _) _, .inl ⟨HN.out, _, _, _, _, rfl⟩⟩
    | true =>
      have na := bneq qa
      have HQ : Hid (a = 92) := Lib.hid (by rw [b92]; exact qa)
      cases qk : ((k.toNat : Int) == 110) with
      | true =>
        have HK : Hid (k = 110 ∨ k = 42 ∨ k = 36) := Lib.hid (.inl (by rw [b110]; exact qk))
        have kk : k = 110 := by rw [b110]; exact qk
        cases qp : ((q.toNat : Int) == 43) with
        | true =>
          have cc : q = 43 := by rw [b43]; exact qp
          have HSZ : Hid (szOf k q = 3) := Lib.hid (by rw [kk, cc]; rfl)
          have HST : Hid (stepOf k q = 1) := Lib.hid (by rw [kk, cc]; rfl)
          clear kk cc
          go_enter Try.func28, Try.ntmps28
          go_wp2_with fail
          refine (name_spec _ _ (by rw [← bl_len, bl_to_end, List.length_drop, bl_len]; omega)).mono ?_
          rintro e w1 ⟨t, n, rfl, hb1, hn⟩
          obtain ⟨hA, hC, hB, hlt⟩ := two_blocks hb1
          have HN := Lib.hid hn
          have n0 := hn.2
          have HB := Lib.hid hB
          have n1 : n ≤ 2000000 := nameIs_le hn (by rw [bl_to_end, List.length_drop, bl_len]; omega)
          have r0 := cellOf hA 0
          have r1 := cellOf hA 1
          have r2 := cellOf hA 2
          have r3 := cellOf hA 3
          have d0 := cellOf hC 0
          have d1 := cellOf hC 1
          have d2 := cellOf hC 2
          have d3 := cellOf hC 3
          have fA := frozOf hA
          have fC := frozOf hC
          clear hb1 hA hC hB hn
          simp at r0 r1 r2 r3 d0 d1 d2 d3
          go_wp2_with fail
          have hBB : Below w.heap.size w ((((((w1.setCell ⟨w.heap.size + 1, 1, none⟩ (.string t)).setCell ⟨w.heap.size + 1, 3, none⟩ (.int .i64 (3 + n))).setCell ⟨w.heap.size, 0, none⟩ (.int .u8 k.toNat)).setCell ⟨w.heap.size, 1, none⟩ (.string t)).setCell ⟨w.heap.size, 2, none⟩ (.int .i64 (1))).setCell ⟨w.heap.size, 3, none⟩ (.int .i64 (3 + n))) :=
            (((((HB.out.setCell (p := ⟨w.heap.size + 1, 1, none⟩) (by simp) _).setCell (p := ⟨w.heap.size + 1, 3, none⟩) (by simp) _).setCell (p := ⟨w.heap.size, 0, none⟩) (Nat.le_refl _) _).setCell (p := ⟨w.heap.size, 1, none⟩) (Nat.le_refl _) _).setCell (p := ⟨w.heap.size, 2, none⟩) (Nat.le_refl _) _).setCell (p := ⟨w.heap.size, 3, none⟩) (Nat.le_refl _) _
          refine bodyPost_ret (v := .tuple #[.agg #[.int .u8 k.toNat, .string t, .int .i64 (1), .int .i64 (3 + n)], .bool (decide (0 < n))]) (by simp [results, Try.results28, go_sem, r0, r1, r2, r3]) rfl ⟨hBB, ?_⟩
          exact asks_end (c := q) (r := r) HQ.out HK.out HSZ.out HST.out HL.out HN.out
        | false =>
          have nc : ¬ q = 43 := by rw [b43, qp]; simp
          cases qm : ((q.toNat : Int) == 45) with
          | true =>
            have cc : q = 45 := by rw [b45]; exact qm
            have HSZ : Hid (szOf k q = 3) := Lib.hid (by rw [kk, cc]; rfl)
            have HST : Hid (stepOf k q = -1) := Lib.hid (by rw [kk, cc]; rfl)
            clear kk cc nc
            go_enter Try.func28, Try.ntmps28
            go_wp2_with fail
            refine (name_spec _ _ (by rw [← bl_len, bl_to_end, List.length_drop, bl_len]; omega)).mono ?_
            rintro e w1 ⟨t, n, rfl, hb1, hn⟩
            obtain ⟨hA, hC, hB, hlt⟩ := two_blocks hb1
            have HN := Lib.hid hn
            have n0 := hn.2
            have HB := Lib.hid hB
            have n1 : n ≤ 2000000 := nameIs_le hn (by rw [bl_to_end, List.length_drop, bl_len]; omega)
            have r0 := cellOf hA 0
            have r1 := cellOf hA 1
            have r2 := cellOf hA 2
            have r3 := cellOf hA 3
            have d0 := cellOf hC 0
            have d1 := cellOf hC 1
            have d2 := cellOf hC 2
            have d3 := cellOf hC 3
            have fA := frozOf hA
            have fC := frozOf hC
            clear hb1 hA hC hB hn
            simp at r0 r1 r2 r3 d0 d1 d2 d3
            go_wp2_with fail
            have hBB : Below w.heap.size w ((((((w1.setCell ⟨w.heap.size + 1, 1, none⟩ (.string t)).setCell ⟨w.heap.size + 1, 3, none⟩ (.int .i64 (3 + n))).setCell ⟨w.heap.size, 0, none⟩ (.int .u8 k.toNat)).setCell ⟨w.heap.size, 1, none⟩ (.string t)).setCell ⟨w.heap.size, 2, none⟩ (.int .i64 (-1))).setCell ⟨w.heap.size, 3, none⟩ (.int .i64 (3 + n))) :=
              (((((HB.out.setCell (p := ⟨w.heap.size + 1, 1, none⟩) (by simp) _).setCell (p := ⟨w.heap.size + 1, 3, none⟩) (by simp) _).setCell (p := ⟨w.heap.size, 0, none⟩) (Nat.le_refl _) _).setCell (p := ⟨w.heap.size, 1, none⟩) (Nat.le_refl _) _).setCell (p := ⟨w.heap.size, 2, none⟩) (Nat.le_refl _) _).setCell (p := ⟨w.heap.size, 3, none⟩) (Nat.le_refl _) _
            refine bodyPost_ret (v := .tuple #[.agg #[.int .u8 k.toNat, .string t, .int .i64 (-1), .int .i64 (3 + n)], .bool (decide (0 < n))]) (by simp [results, Try.results28, go_sem, r0, r1, r2, r3]) rfl ⟨hBB, ?_⟩
            exact asks_end (c := q) (r := r) HQ.out HK.out HSZ.out HST.out HL.out HN.out
          | false =>
            have nm : ¬ q = 45 := by rw [b45, qm]; simp
            have HSZ : Hid (szOf k q = 2) := Lib.hid (by rw [szOf, if_neg (fun h => h.2.elim nc nm)])
            have HST : Hid (stepOf k q = 0) := Lib.hid (by rw [stepOf, if_pos kk, if_neg nc, if_neg nm])
            clear kk nc nm
            go_enter Try.func28, Try.ntmps28
            go_wp2_with fail
            refine (name_spec _ _ (by rw [← bl_len, bl_to_end, List.length_drop, bl_len]; omega)).mono ?_
            rintro e w1 ⟨t, n, rfl, hb1, hn⟩
            obtain ⟨hA, hC, hB, hlt⟩ := two_blocks hb1
            have HN := Lib.hid hn
            have n0 := hn.2
            have HB := Lib.hid hB
            have n1 : n ≤ 2000000 := nameIs_le hn (by rw [bl_to_end, List.length_drop, bl_len]; omega)
            have r0 := cellOf hA 0
            have r1 := cellOf hA 1
            have r2 := cellOf hA 2
            have r3 := cellOf hA 3
            have d0 := cellOf hC 0
            have d1 := cellOf hC 1
            have d2 := cellOf hC 2
            have d3 := cellOf hC 3
            have fA := frozOf hA
            have fC := frozOf hC
            clear hb1 hA hC hB hn
            simp at r0 r1 r2 r3 d0 d1 d2 d3
            go_wp2_with fail
            have hBB : Below w.heap.size w ((((((w1.setCell ⟨w.heap.size + 1, 1, none⟩ (.string t)).setCell ⟨w.heap.size + 1, 3, none⟩ (.int .i64 (2 + n))).setCell ⟨w.heap.size, 0, none⟩ (.int .u8 k.toNat)).setCell ⟨w.heap.size, 1, none⟩ (.string t)).setCell ⟨w.heap.size, 2, none⟩ (.int .i64 (0))).setCell ⟨w.heap.size, 3, none⟩ (.int .i64 (2 + n))) :=
              (((((HB.out.setCell (p := ⟨w.heap.size + 1, 1, none⟩) (by simp) _).setCell (p := ⟨w.heap.size + 1, 3, none⟩) (by simp) _).setCell (p := ⟨w.heap.size, 0, none⟩) (Nat.le_refl _) _).setCell (p := ⟨w.heap.size, 1, none⟩) (Nat.le_refl _) _).setCell (p := ⟨w.heap.size, 2, none⟩) (Nat.le_refl _) _).setCell (p := ⟨w.heap.size, 3, none⟩) (Nat.le_refl _) _
            refine bodyPost_ret (v := .tuple #[.agg #[.int .u8 k.toNat, .string t, .int .i64 (0), .int .i64 (2 + n)], .bool (decide (0 < n))]) (by simp [results, Try.results28, go_sem, r0, r1, r2, r3]) rfl ⟨hBB, ?_⟩
            exact asks_end (c := q) (r := r) HQ.out HK.out HSZ.out HST.out HL.out HN.out
      | false =>
        have nk : ¬ k = 110 := by rw [b110, qk]; simp
        have HSZ : Hid (szOf k q = 2) := Lib.hid (by rw [szOf, if_neg (fun h => nk h.1)])
        have HST : Hid (stepOf k q = 0) := Lib.hid (by rw [stepOf, if_neg nk])
        cases qs : ((k.toNat : Int) == 42) with
        | true =>
          have HK : Hid (k = 110 ∨ k = 42 ∨ k = 36) := Lib.hid (.inr (.inl (by rw [b42]; exact qs)))
          clear nk
          go_enter Try.func28, Try.ntmps28
          go_wp2_with fail
          refine (name_spec _ _ (by rw [← bl_len, bl_to_end, List.length_drop, bl_len]; omega)).mono ?_
          rintro e w1 ⟨t, n, rfl, hb1, hn⟩
          obtain ⟨hA, hC, hB, hlt⟩ := two_blocks hb1
          have HN := Lib.hid hn
          have n0 := hn.2
          have HB := Lib.hid hB
          have n1 : n ≤ 2000000 := nameIs_le hn (by rw [bl_to_end, List.length_drop, bl_len]; omega)
          have r0 := cellOf hA 0
          have r1 := cellOf hA 1
          have r2 := cellOf hA 2
          have r3 := cellOf hA 3
          have d0 := cellOf hC 0
          have d1 := cellOf hC 1
          have d2 := cellOf hC 2
          have d3 := cellOf hC 3
          have fA := frozOf hA
          have fC := frozOf hC
          clear hb1 hA hC hB hn
          simp at r0 r1 r2 r3 d0 d1 d2 d3
          go_wp2_with fail
          have hBB : Below w.heap.size w ((((((w1.setCell ⟨w.heap.size + 1, 1, none⟩ (.string t)).setCell ⟨w.heap.size + 1, 3, none⟩ (.int .i64 (2 + n))).setCell ⟨w.heap.size, 0, none⟩ (.int .u8 k.toNat)).setCell ⟨w.heap.size, 1, none⟩ (.string t)).setCell ⟨w.heap.size, 2, none⟩ (.int .i64 (0))).setCell ⟨w.heap.size, 3, none⟩ (.int .i64 (2 + n))) :=
            (((((HB.out.setCell (p := ⟨w.heap.size + 1, 1, none⟩) (by simp) _).setCell (p := ⟨w.heap.size + 1, 3, none⟩) (by simp) _).setCell (p := ⟨w.heap.size, 0, none⟩) (Nat.le_refl _) _).setCell (p := ⟨w.heap.size, 1, none⟩) (Nat.le_refl _) _).setCell (p := ⟨w.heap.size, 2, none⟩) (Nat.le_refl _) _).setCell (p := ⟨w.heap.size, 3, none⟩) (Nat.le_refl _) _
          refine bodyPost_ret (v := .tuple #[.agg #[.int .u8 k.toNat, .string t, .int .i64 (0), .int .i64 (2 + n)], .bool (decide (0 < n))]) (by simp [results, Try.results28, go_sem, r0, r1, r2, r3]) rfl ⟨hBB, ?_⟩
          exact asks_end (c := q) (r := r) HQ.out HK.out HSZ.out HST.out HL.out HN.out
        | false =>
          cases qd : ((k.toNat : Int) == 36) with
          | true =>
            have HK : Hid (k = 110 ∨ k = 42 ∨ k = 36) := Lib.hid (.inr (.inr (by rw [b36]; exact qd)))
            clear nk
            go_enter Try.func28, Try.ntmps28
            go_wp2_with fail
            refine (name_spec _ _ (by rw [← bl_len, bl_to_end, List.length_drop, bl_len]; omega)).mono ?_
            rintro e w1 ⟨t, n, rfl, hb1, hn⟩
            obtain ⟨hA, hC, hB, hlt⟩ := two_blocks hb1
            have HN := Lib.hid hn
            have n0 := hn.2
            have HB := Lib.hid hB
            have n1 : n ≤ 2000000 := nameIs_le hn (by rw [bl_to_end, List.length_drop, bl_len]; omega)
            have r0 := cellOf hA 0
            have r1 := cellOf hA 1
            have r2 := cellOf hA 2
            have r3 := cellOf hA 3
            have d0 := cellOf hC 0
            have d1 := cellOf hC 1
            have d2 := cellOf hC 2
            have d3 := cellOf hC 3
            have fA := frozOf hA
            have fC := frozOf hC
            clear hb1 hA hC hB hn
            simp at r0 r1 r2 r3 d0 d1 d2 d3
            go_wp2_with fail
            have hBB : Below w.heap.size w ((((((w1.setCell ⟨w.heap.size + 1, 1, none⟩ (.string t)).setCell ⟨w.heap.size + 1, 3, none⟩ (.int .i64 (2 + n))).setCell ⟨w.heap.size, 0, none⟩ (.int .u8 k.toNat)).setCell ⟨w.heap.size, 1, none⟩ (.string t)).setCell ⟨w.heap.size, 2, none⟩ (.int .i64 (0))).setCell ⟨w.heap.size, 3, none⟩ (.int .i64 (2 + n))) :=
              (((((HB.out.setCell (p := ⟨w.heap.size + 1, 1, none⟩) (by simp) _).setCell (p := ⟨w.heap.size + 1, 3, none⟩) (by simp) _).setCell (p := ⟨w.heap.size, 0, none⟩) (Nat.le_refl _) _).setCell (p := ⟨w.heap.size, 1, none⟩) (Nat.le_refl _) _).setCell (p := ⟨w.heap.size, 2, none⟩) (Nat.le_refl _) _).setCell (p := ⟨w.heap.size, 3, none⟩) (Nat.le_refl _) _
            refine bodyPost_ret (v := .tuple #[.agg #[.int .u8 k.toNat, .string t, .int .i64 (0), .int .i64 (2 + n)], .bool (decide (0 < n))]) (by simp [results, Try.results28, go_sem, r0, r1, r2, r3]) rfl ⟨hBB, ?_⟩
            exact asks_end (c := q) (r := r) HQ.out HK.out HSZ.out HST.out HL.out HN.out
          | false =>
            have HN : Hid (asksP (a :: k :: q :: r) = none) := Lib.hid (by
              rw [asksP, if_neg]
              rintro ⟨_, h | h | h⟩
              · exact nk h
              · rw [b42, qs] at h; cases h
              · rw [b36, qd] at h; cases h)
            clear nk
            go_enter Try.func28, Try.ntmps28
            go_wp2
            refine bodyPost_ret (v := .tuple #[.agg #[.int .u8 0, .string ⟨#[]⟩, .int .i64 0, .int .i64 0], .bool false]) (by simp [results, Try.results28, go_sem]) rfl ⟨?_, .inl ⟨HN.out, _, _, _, _, rfl⟩⟩
            exact ((Below.refl _ _).alloc (Nat.le_refl _) _).alloc (by simp) _
end Go.Proofs.Ytcahlfafadabaaa
