/- Pages are the same; lists of pages are. -/
import Derived.Test.YtfejkaemledipaaEq36d
namespace Go.Proofs.Ytfejkaemledipaa
open Go.RowKit

theorem page_eq_iff (p q : Page) : p = q ↔ p.number = q.number ∧ p.marks = q.marks := by cases p; cases q; simp

set_option maxHeartbeats 1600000 in
theorem same_spec (w : World) (L : List Nat) (p q : Page) (A1 A2 : Option Addr) (c1 c2 : Nat) (h1 : Sl rMark w L (.slice A1 p.marks.length c1) p.marks) (h2 : Sl rMark w L (.slice A2 q.marks.length c2) q.marks) :
    Calls Try.prog 10 #[.agg #[.int .i64 p.number, .slice A1 p.marks.length c1], .agg #[.int .i64 q.number, .slice A2 q.marks.length c2]] w fun e w' => e = .returned (.bool (decide (p = q))) ∧ Below w.heap.size w w' := by
  have hB0 : ∀ (c1 c2 : Array Value), Below w.heap.size w ((w.alloc (.cells c1 24)).alloc (.cells c2 24)) := fun c1 c2 => ((Below.refl _ _).alloc (Nat.le_refl _) _).alloc (by simp) _
  have HB0 := Lib.hid hB0
  clear hB0
  have HE := Lib.hid (page_eq_iff p q)
  generalize hX : p.marks = X at *
  generalize hY : q.marks = Y at *
  have HX := Lib.hid hX
  have HY := Lib.hid hY
  clear hX hY
  have H1 := Lib.hid h1
  have H2 := Lib.hid h2
  clear h1 h2
  by_cases e0 : p.number = q.number
  · have g0 : (p.number == q.number) = true := by simp [e0]
    have E0 := Lib.hid e0
    clear e0
    go_enter Try.func10, Try.ntmps10
    go_wp2_with fail
    refine (equalFunc_spec _ L _ _ _ _ X Y (H1.out.below (HB0.out _ _)) (H2.out.below (HB0.out _ _))).mono ?_
    rintro e w1 ⟨rfl, hb1⟩
    have hB1 : Below w.heap.size w w1 := (((Below.refl w.heap.size w).alloc (Nat.le_refl _) _).alloc (by simp) _).trans (hb1.mono (by simp; omega))
    clear hb1
    go_wp2
    go_ret
    exact ⟨ret_bool (by rw [decide_eq_decide, HE.out]; exact ⟨fun h => ⟨E0.out, h⟩, fun h => h.2⟩), hB1⟩
  · have g0 : (p.number == q.number) = false := by simp [e0]
    have E0 := Lib.hid e0
    clear e0
    go_enter Try.func10, Try.ntmps10
    go_wp2
    go_ret
    exact ⟨ret_bool (by rw [eq_comm, decide_eq_false_iff_not, HE.out]; exact fun h => E0.out h.1), HB0.out _ _⟩
set_option maxHeartbeats 1600000 in
theorem refSame_spec (w : World) (L : List Nat) (p q : Page) (A1 A2 : Option Addr) (c1 c2 : Nat) (h1 : Sl rMark w L (.slice A1 p.marks.length c1) p.marks) (h2 : Sl rMark w L (.slice A2 q.marks.length c2) q.marks) :
    Calls Try.prog 11 #[.agg #[.int .i64 p.number, .slice A1 p.marks.length c1], .agg #[.int .i64 q.number, .slice A2 q.marks.length c2]] w fun e w' => e = .returned (.bool (decide (p = q))) ∧ Below w.heap.size w w' := by
  have hB0 : ∀ (c1 c2 : Array Value), Below w.heap.size w ((w.alloc (.cells c1 35)).alloc (.cells c2 35)) := fun c1 c2 => ((Below.refl _ _).alloc (Nat.le_refl _) _).alloc (by simp) _
  have HB0 := Lib.hid hB0
  clear hB0
  have HE := Lib.hid (page_eq_iff p q)
  generalize hX : p.marks = X at *
  generalize hY : q.marks = Y at *
  have HX := Lib.hid hX
  have HY := Lib.hid hY
  clear hX hY
  have H1 := Lib.hid h1
  have H2 := Lib.hid h2
  clear h1 h2
  by_cases e0 : p.number = q.number
  · have g0 : (p.number == q.number) = true := by simp [e0]
    have E0 := Lib.hid e0
    clear e0
    go_enter Try.func11, Try.ntmps11
    go_wp2_with fail
    refine (sameMarks_spec _ L _ _ _ _ X Y (H1.out.below (HB0.out _ _)) (H2.out.below (HB0.out _ _))).mono ?_
    rintro e w1 ⟨rfl, hb1⟩
    have hB1 : Below w.heap.size w w1 := (((Below.refl w.heap.size w).alloc (Nat.le_refl _) _).alloc (by simp) _).trans (hb1.mono (by simp; omega))
    clear hb1
    go_wp2
    go_ret
    exact ⟨ret_bool (by rw [decide_eq_decide, HE.out]; exact ⟨fun h => ⟨E0.out, h⟩, fun h => h.2⟩), hB1⟩
  · have g0 : (p.number == q.number) = false := by simp [e0]
    have E0 := Lib.hid e0
    clear e0
    go_enter Try.func11, Try.ntmps11
    go_wp2
    go_ret
    exact ⟨ret_bool (by rw [eq_comm, decide_eq_false_iff_not, HE.out]; exact fun h => E0.out h.1), HB0.out _ _⟩

set_option maxHeartbeats 1600000 in
/-- SamePages of the document. -/
theorem samePages_spec (w : World) (L : List Nat) (A1 A2 : Option Addr) (c1 c2 : Nat) (xs ys : List Page) (h1 : Sl rPage w L (.slice A1 xs.length c1) xs) (h2 : Sl rPage w L (.slice A2 ys.length c2) ys) :
    Calls Try.prog 7 #[.slice A1 xs.length c1, .slice A2 ys.length c2] w fun e w' => e = .returned (.bool (decide (xs = ys))) ∧ Below w.heap.size w w' := by
  have m1 := h1.max
  have m2 := h2.max
  by_cases hl : xs.length = ys.length
  · have hb : ((xs.length : Int) != (ys.length : Int)) = false := by simp [hl]
    have Hl := Lib.hid hl
    clear hl
    go_enter Try.func7, Try.ntmps7
    go_wp2
    go_loopw [5] (fun i wr => ∃ k : Nat, k ≤ xs.length ∧ i = .int .i64 k ∧ Below w.heap.size w wr ∧ xs.take k = ys.take k) (fun i _ => xs.length - (intOf i).toNat)
    case atStart => exact ⟨0, Nat.zero_le _, rfl, Below.refl _ _, rfl⟩
    case round =>
      obtain ⟨k, hk, rfl, hB, ht⟩ := hrel
      have Ht := Lib.hid ht
      clear ht
      by_cases hlt : k < xs.length
      · have hlt2 : k < ys.length := by have := Hl.out; omega
        obtain ⟨b1, o1, A8, c8, rfl, l1, n1, e0, e1⟩ := page_cells (h1.below hB) hlt
        obtain ⟨b2, o2, B8, d8, rfl, l2, n2, f0, f1⟩ := page_cells (h2.below hB) hlt2
        have N1 := Lib.hid n1
        have N2 := Lib.hid n2
        clear n1 n2
        have i2 : (k : Int) < (ys.length : Int) := by omega
        have i1 : (k : Int) < (xs.length : Int) := by omega
        have i0 : (0 : Int) ≤ (k : Int) := by omega
        generalize hx : xs[k] = x at *
        generalize hy : ys[k] = y at *
        have Hx := Lib.hid hx
        have Hy := Lib.hid hy
        clear hx hy
        go_wp2
        by_cases he : x = y
        · have hd := decide_eq_true he
          have He := Lib.hid he
          clear he
          refine wp_region_below (by kernel_rfl) (by kernel_rfl) ?_
          repeat (
            first
            | go_big_quiet_skip
            | (go_big_quiet_want
               first
               | (go_big_quiet_op; go_big_quiet_on)
               | (apply Exists.intro
                  refine And.intro (fun W hW => ?_) ?_
                  · have gc := fun b o h => hW.cell (p := ⟨b, o, none⟩) h
                    unfold Oper.quietAt
                    go_simp
                    first
                    | (go_at_call 11; exact Calls.classed hW (refSame_spec _ L x y _ _ _ _ (N1.out.below hW) (N2.out.below hW)))
                    | exact rfl
                  go_big_quiet_on
                  simp only [Act.put, List.setIfInBounds_toArray, List.set_cons_zero, List.set_cons_succ])))
          refine wpQuiet_nil ?_
          intro w1 hb1
          have hB1 : Below w.heap.size w w1 := hB.trans (hb1.mono hB.size)
          clear hb1
          go_wp2
          go_roundw
          case rel => exact ⟨k + 1, by omega, by go_num, hB1, take_succ_eq hlt hlt2 Ht.out (by rw [Hx.out, Hy.out]; exact He.out)⟩
          case measure => simp [intOf]; omega
        · have hd := decide_eq_false he
          have He := Lib.hid he
          clear he
          refine wp_region_below (by kernel_rfl) (by kernel_rfl) ?_
          repeat (
            first
            | go_big_quiet_skip
            | (go_big_quiet_want
               first
               | (go_big_quiet_op; go_big_quiet_on)
               | (apply Exists.intro
                  refine And.intro (fun W hW => ?_) ?_
                  · have gc := fun b o h => hW.cell (p := ⟨b, o, none⟩) h
                    unfold Oper.quietAt
                    go_simp
                    first
                    | (go_at_call 11; exact Calls.classed hW (refSame_spec _ L x y _ _ _ _ (N1.out.below hW) (N2.out.below hW)))
                    | exact rfl
                  go_big_quiet_on
                  simp only [Act.put, List.setIfInBounds_toArray, List.set_cons_zero, List.set_cons_succ])))
          refine wpQuiet_nil ?_
          intro w1 hb1
          have hB1 : Below w.heap.size w w1 := hB.trans (hb1.mono hB.size)
          clear hb1
          go_wp2
          go_ret
          exact ⟨ret_bool (by rw [decide_eq_false]; intro e; subst e; exact He.out (Hx.out.symm.trans Hy.out)), hB1⟩
      · go_wp2
        go_ret
        exact ⟨ret_bool (by rw [decide_eq_true (take_full Hl.out (by omega) Ht.out)]), hB⟩
  · have hb : ((xs.length : Int) != (ys.length : Int)) = true := by simp; omega
    go_enter Try.func7, Try.ntmps7
    go_wp2
    go_ret
    exact ⟨ret_bool (by rw [decide_eq_false]; intro e; exact hl (by rw [e])), Below.refl _ _⟩
end Go.Proofs.Ytfejkaemledipaa
