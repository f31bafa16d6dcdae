/- That lists of marks and pages are the same: the program's way and the document's. -/
import Derived.Test.YtfejkaemledipaaEq36
namespace Go.Proofs.Ytfejkaemledipaa
open Go.RowKit

/-- Element i of a row of marks, its nine cells. -/
theorem mark_cells {w : World} {L : List Nat} {A : Option Addr} {n c : Nat} {xs : List Mark} (h : Sl rMark w L (.slice A n c) xs) {i : Nat} (hi : i < xs.length) :
    ∃ b o A8 c8, A = some ⟨b, o, none⟩ ∧ b < w.heap.size ∧ Sl (Rp.int .i64) w L (.slice A8 xs[i].n.length c8) xs[i].n ∧
      w.cell? ⟨b, o + i * 9, none⟩ = some (.int .i64 xs[i].page) ∧ w.cell? ⟨b, o + i * 9 + 1, none⟩ = some (.int .i64 xs[i].x) ∧ w.cell? ⟨b, o + i * 9 + 2, none⟩ = some (.int .i64 xs[i].y) ∧
      w.cell? ⟨b, o + i * 9 + 3, none⟩ = some (.int .i64 xs[i].font) ∧ w.cell? ⟨b, o + i * 9 + 4, none⟩ = some (.int .i64 xs[i].size) ∧ w.cell? ⟨b, o + i * 9 + 5, none⟩ = some (.string xs[i].colour) ∧
      w.cell? ⟨b, o + i * 9 + 6, none⟩ = some (.string xs[i].name) ∧ w.cell? ⟨b, o + i * 9 + 7, none⟩ = some (.string xs[i].stroke) ∧ w.cell? ⟨b, o + i * 9 + 8, none⟩ = some (.slice A8 xs[i].n.length c8) := by
  obtain ⟨b, o, rfl, hb, cs, hk, hc⟩ := h.get hi
  obtain ⟨v, rfl, hv⟩ := rMark_open hk
  obtain ⟨A8, c8, rfl⟩ := hv.val
  exact ⟨b, o, A8, c8, rfl, hb, hv, hc 0 _ rfl, hc 1 _ rfl, hc 2 _ rfl, hc 3 _ rfl, hc 4 _ rfl, hc 5 _ rfl, hc 6 _ rfl, hc 7 _ rfl, hc 8 _ rfl⟩

set_option maxHeartbeats 1600000 in
/-- slices.EqualFunc at marks, by equal. -/
theorem equalFunc_spec (w : World) (L : List Nat) (A1 A2 : Option Addr) (c1 c2 : Nat) (xs ys : List Mark) (h1 : Sl rMark w L (.slice A1 xs.length c1) xs) (h2 : Sl rMark w L (.slice A2 ys.length c2) ys) :
    Calls Try.prog 16 #[.slice A1 xs.length c1, .slice A2 ys.length c2, .func (.func 17) #[] #[]] w fun e w' => e = .returned (.bool (decide (xs = ys))) ∧ Below w.heap.size w w' := by
  have m1 := h1.max
  have m2 := h2.max
  by_cases hl : xs.length = ys.length
  · have hb : ((xs.length : Int) != (ys.length : Int)) = false := by simp [hl]
    have Hl := Lib.hid hl
    clear hl
    go_enter Try.func16, Try.ntmps16
    go_wp2
    go_loopw [17] (fun i wr => ∃ k : Nat, k ≤ xs.length ∧ i = .int .i64 k ∧ Below w.heap.size w wr ∧ xs.take k = ys.take k) (fun i _ => xs.length - (intOf i).toNat)
    case atStart => exact ⟨0, Nat.zero_le _, rfl, Below.refl _ _, rfl⟩
    case round =>
      obtain ⟨k, hk, rfl, hB, ht⟩ := hrel
      have Ht := Lib.hid ht
      clear ht
      by_cases hlt : k < xs.length
      · have hlt2 : k < ys.length := by have := Hl.out; omega
        obtain ⟨b1, o1, A8, c8, rfl, l1, n1, e0, e1, e2, e3, e4, e5, e6, e7, e8⟩ := mark_cells (h1.below hB) hlt
        obtain ⟨b2, o2, B8, d8, rfl, l2, n2, f0, f1, f2, f3, f4, f5, f6, f7, f8⟩ := mark_cells (h2.below hB) hlt2
        have N1 := Lib.hid n1
        have N2 := Lib.hid n2
        clear n1 n2
        have i2 : (k : Int) < (ys.length : Int) := by omega
        generalize hx : xs[k] = x at *
        generalize hy : ys[k] = y at *
        have Hx := Lib.hid hx
        have Hy := Lib.hid hy
        clear hx hy
        go_wp2_with fail
        refine (equal_spec _ L x y _ _ _ _ (N1.out.below ?_) (N2.out.below ?_)).mono ?_
        · exact ((Below.refl _ _).alloc (Nat.le_refl _) _).alloc (by simp) _
        · exact ((Below.refl _ _).alloc (Nat.le_refl _) _).alloc (by simp) _
        rintro e w1 ⟨rfl, hb1⟩
        have hB1 : Below w.heap.size w w1 := ((hB.alloc hB.size _).alloc (by simp; have := hB.size; omega) _).trans (hb1.mono (by simp; have := hB.size; omega))
        clear hb1
        by_cases he : x = y
        · have hd := decide_eq_true he
          have He := Lib.hid he
          clear he
          go_wp2
          go_roundw
          case rel => exact ⟨k + 1, by omega, by go_num, hB1, take_succ_eq hlt hlt2 Ht.out (by rw [Hx.out, Hy.out]; exact He.out)⟩
          case measure => simp [intOf]; omega
        · have hd := decide_eq_false he
          have He := Lib.hid he
          clear he
          go_wp2
          go_ret
          exact ⟨ret_bool (by rw [decide_eq_false]; intro e; subst e; exact He.out (Hx.out.symm.trans Hy.out)), hB1⟩
      · go_wp2
        go_ret
        exact ⟨ret_bool (by rw [decide_eq_true (take_full Hl.out (by omega) Ht.out)]), hB⟩
  · have hb : (xs.length != ys.length) = true := by simp [hl]
    go_enter Try.func16, Try.ntmps16
    go_wp2
    go_ret
    exact ⟨ret_bool (by rw [decide_eq_false]; intro e; exact hl (by rw [e])), Below.refl _ _⟩
end Go.Proofs.Ytfejkaemledipaa
