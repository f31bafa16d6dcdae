/- The document's comparison of lists of marks, of pages, of lists of pages; the program's of pages. -/
import Derived.Test.YtfejkaemledipaaEq36c
namespace Go.Proofs.Ytfejkaemledipaa
open Go.RowKit

structure Page where
  number : Int
  marks : List Mark
  deriving DecidableEq

def rMarks : Rp (List Mark) := Rp.slice rMark
def rPage : Rp Page := Rp.iso (Rp.pair (Rp.int .i64) rMarks) (fun p => (p.number, p.marks))

theorem rPage_open {w : World} {L : List Nat} {p : Page} {cs : List Value} (h : rPage.K w L p cs) : ∃ v, cs = [.int .i64 p.number, v] ∧ Sl rMark w L v p.marks := by
  obtain ⟨_, _, rfl, rfl, v, rfl, hv⟩ := h
  exact ⟨v, rfl, hv⟩
theorem rPage_mk {w : World} {L : List Nat} {p : Page} {v : Value} (hv : Sl rMark w L v p.marks) : rPage.K w L p [.int .i64 p.number, v] :=
  ⟨_, _, rfl, rfl, v, rfl, hv⟩
theorem page_cells {w : World} {L : List Nat} {A : Option Addr} {n c : Nat} {xs : List Page} (h : Sl rPage w L (.slice A n c) xs) {i : Nat} (hi : i < xs.length) :
    ∃ b o A1 c1, A = some ⟨b, o, none⟩ ∧ b < w.heap.size ∧ Sl rMark w L (.slice A1 xs[i].marks.length c1) xs[i].marks ∧
      w.cell? ⟨b, o + i * 2, none⟩ = some (.int .i64 xs[i].number) ∧ w.cell? ⟨b, o + i * 2 + 1, none⟩ = some (.slice A1 xs[i].marks.length c1) := by
  obtain ⟨b, o, rfl, hb, cs, hk, hc⟩ := h.get hi
  obtain ⟨v, rfl, hv⟩ := rPage_open hk
  obtain ⟨A8, c8, rfl⟩ := hv.val
  exact ⟨b, o, A8, c8, rfl, hb, hv, hc 0 _ rfl, hc 1 _ rfl⟩

set_option maxHeartbeats 1600000 in
/-- SameMarks of the document. -/
theorem sameMarks_spec (w : World) (L : List Nat) (A1 A2 : Option Addr) (c1 c2 : Nat) (xs ys : List Mark) (h1 : Sl rMark w L (.slice A1 xs.length c1) xs) (h2 : Sl rMark w L (.slice A2 ys.length c2) ys) :
    Calls Try.prog 9 #[.slice A1 xs.length c1, .slice A2 ys.length c2] w fun e w' => e = .returned (.bool (decide (xs = ys))) ∧ Below w.heap.size w w' := by
  have m1 := h1.max
  have m2 := h2.max
  by_cases hl : xs.length = ys.length
  · have hb : ((xs.length : Int) != (ys.length : Int)) = false := by simp [hl]
    have Hl := Lib.hid hl
    clear hl
    go_enter Try.func9, Try.ntmps9
    go_wp2
    go_loopw [5] (fun i wr => ∃ k : Nat, k ≤ xs.length ∧ i = .int .i64 k ∧ Below w.heap.size w wr ∧ xs.take k = ys.take k) (fun i _ => xs.length - (intOf i).toNat)
    case atStart => exact ⟨0, Nat.zero_le _, rfl, Below.refl _ _, rfl⟩
    case round =>
      obtain ⟨k, hk, rfl, hB, ht⟩ := hrel
      have Ht := Lib.hid ht
      clear ht
      by_cases hlt : k < xs.length
      · have hlt2 : k < ys.length := by have := Hl.out; omega
        obtain ⟨b1, o1, A8, c8, rfl, l1, n1, e0, e1, e2, e3, e4, e5, e6, e7, e8⟩ := mark_cells (h1.below hB) hlt
        obtain ⟨b2, o2, B8, d8, rfl, l2, n2, f0, f1, f2, f3, f4, f5, f6, f7, f8⟩ := mark_cells (h2.below hB) hlt2
        have N1 := Lib.hid n1
        have N2 := Lib.hid n2
        clear n1 n2
        have i2 : (k : Int) < (ys.length : Int) := by omega
        have i1 : (k : Int) < (xs.length : Int) := by omega
        have i0 : (0 : Int) ≤ (k : Int) := by omega
        generalize hx : xs[k] = x at *
        generalize hy : ys[k] = y at *
        have Hx := Lib.hid hx
        have Hy := Lib.hid hy
        clear hx hy
        go_wp2
        by_cases he : x = y
        · have hd := decide_eq_true he
          have He := Lib.hid he
          clear he
          refine wp_region_below (by kernel_rfl) (by kernel_rfl) ?_
          repeat (
            first
            | go_big_quiet_skip
            | (go_big_quiet_want
               first
               | (go_big_quiet_op; go_big_quiet_on)
               | (apply Exists.intro
                  refine And.intro (fun W hW => ?_) ?_
                  · have gc := fun b o h => hW.cell (p := ⟨b, o, none⟩) h
                    unfold Oper.quietAt
                    go_simp
                    first
                    | (go_at_call 15; exact Calls.classed hW (sameMark_spec _ L x y _ _ _ _ (N1.out.below hW) (N2.out.below hW)))
                    | exact rfl
                  go_big_quiet_on
                  simp only [Act.put, List.setIfInBounds_toArray, List.set_cons_zero, List.set_cons_succ])))
          refine wpQuiet_nil ?_
          intro w1 hb1
          have hB1 : Below w.heap.size w w1 := hB.trans (hb1.mono hB.size)
          clear hb1
          go_wp2
          go_roundw
          case rel => exact ⟨k + 1, by omega, by go_num, hB1, take_succ_eq hlt hlt2 Ht.out (by rw [Hx.out, Hy.out]; exact He.out)⟩
          case measure => simp [intOf]; omega
        · have hd := decide_eq_false he
          have He := Lib.hid he
          clear he
          refine wp_region_below (by kernel_rfl) (by kernel_rfl) ?_
          repeat (
            first
            | go_big_quiet_skip
            | (go_big_quiet_want
               first
               | (go_big_quiet_op; go_big_quiet_on)
               | (apply Exists.intro
                  refine And.intro (fun W hW => ?_) ?_
                  · have gc := fun b o h => hW.cell (p := ⟨b, o, none⟩) h
                    unfold Oper.quietAt
                    go_simp
                    first
                    | (go_at_call 15; exact Calls.classed hW (sameMark_spec _ L x y _ _ _ _ (N1.out.below hW) (N2.out.below hW)))
                    | exact rfl
                  go_big_quiet_on
                  simp only [Act.put, List.setIfInBounds_toArray, List.set_cons_zero, List.set_cons_succ])))
          refine wpQuiet_nil ?_
          intro w1 hb1
          have hB1 : Below w.heap.size w w1 := hB.trans (hb1.mono hB.size)
          clear hb1
          go_wp2
          go_ret
          exact ⟨ret_bool (by rw [decide_eq_false]; intro e; subst e; exact He.out (Hx.out.symm.trans Hy.out)), hB1⟩
      · go_wp2
        go_ret
        exact ⟨ret_bool (by rw [decide_eq_true (take_full Hl.out (by omega) Ht.out)]), hB⟩
  · have hb : ((xs.length : Int) != (ys.length : Int)) = true := by simp; omega
    go_enter Try.func9, Try.ntmps9
    go_wp2
    go_ret
    exact ⟨ret_bool (by rw [decide_eq_false]; intro e; exact hl (by rw [e])), Below.refl _ _⟩
end Go.Proofs.Ytfejkaemledipaa
