/- That two marks, two lists of marks and two pages are the same: the program's way. -/
import Derived.Test.YtfejkaemledipaaMark
import Derived.Test.YtfejkaemledipaaArrEq
namespace Go.Proofs.Ytfejkaemledipaa
open Go.RowKit

set_option maxHeartbeats 400000 in
theorem ints_any (p x y f s : Int) (c n k : ByteArray) (N : Value) (w : World) :
    Calls Try.prog 21 #[.agg #[.int .i64 p, .int .i64 x, .int .i64 y, .int .i64 f, .int .i64 s, .string c, .string n, .string k, N]] w fun e w' => e = .returned (.agg #[.int .i64 p, .int .i64 x, .int .i64 y, .int .i64 f, .int .i64 s]) ∧ Below w.heap.size w w' := by
  go_enter Try.func21, Try.ntmps21
  go_wp2
  refine bodyPost_ret (v := .agg #[.int .i64 p, .int .i64 x, .int .i64 y, .int .i64 f, .int .i64 s]) (by simp [results, Try.results21, go_sem]) rfl ⟨rfl, ?_⟩
  exact ((Below.refl _ _).alloc (Nat.le_refl _) _).alloc (by simp) _

theorem two_start (w : World) (c1 c2 : List Value) (t1 t2 : Nat) : (∀ o, ((w.alloc (.cells c1.toArray t1)).alloc (.cells c2.toArray t2)).drew.cell? ⟨w.heap.size, o, none⟩ = c1[o]?) ∧ (∀ o, ((w.alloc (.cells c1.toArray t1)).alloc (.cells c2.toArray t2)).drew.cell? ⟨w.heap.size + 1, o, none⟩ = c2[o]?) ∧
    Below w.heap.size w ((w.alloc (.cells c1.toArray t1)).alloc (.cells c2.toArray t2)).drew ∧ w.heap.size + 1 < ((w.alloc (.cells c1.toArray t1)).alloc (.cells c2.toArray t2)).drew.heap.size := by
  refine ⟨fun o => ?_, fun o => ?_, below_drewN (((Below.refl _ _).alloc (Nat.le_refl _) _).alloc (by simp) _) 1, ?_⟩
  · show (match ((w.heap.push (.cells c1.toArray t1)).push (.cells c2.toArray t2))[w.heap.size]? with | some (.cells c _ _) => if (none : Option Nat).isSome then none else c[o]? | _ => none) = _
    rw [Array.getElem?_push, if_neg (by simp), Array.getElem?_push, if_pos rfl]
    simp
  · show (match ((w.heap.push (.cells c1.toArray t1)).push (.cells c2.toArray t2))[w.heap.size + 1]? with | some (.cells c _ _) => if (none : Option Nat).isSome then none else c[o]? | _ => none) = _
    rw [Array.getElem?_push, if_pos (by simp)]
    simp
  · show w.heap.size + 1 < ((w.heap.push (.cells c1.toArray t1)).push (.cells c2.toArray t2)).size
    simp
theorem two_keep {w W w' : World} {c1 c2 : List Value} (h1 : ∀ o, W.cell? ⟨w.heap.size, o, none⟩ = c1[o]?) (h2 : ∀ o, W.cell? ⟨w.heap.size + 1, o, none⟩ = c2[o]?) (hB : Below w.heap.size w W) (hs : w.heap.size + 1 < W.heap.size) (hb : Below W.heap.size W w') :
    (∀ o, w'.cell? ⟨w.heap.size, o, none⟩ = c1[o]?) ∧ (∀ o, w'.cell? ⟨w.heap.size + 1, o, none⟩ = c2[o]?) ∧ Below w.heap.size w w' ∧ w.heap.size + 1 < w'.heap.size :=
  ⟨fun o => (cell_of_heap (hb.block _ (by omega)) o).trans (h1 o), fun o => (cell_of_heap (hb.block _ (by omega)) o).trans (h2 o), hB.trans (hb.mono (by omega)), Nat.lt_of_lt_of_le hs hb.size⟩


theorem toList_inj {a b : ByteArray} (h : a.toList = b.toList) : a = b := by
  rw [ByteArray.toList_eq, ByteArray.toList_eq] at h
  obtain ⟨⟨x⟩⟩ := a
  obtain ⟨⟨y⟩⟩ := b
  have : x = y := h
  rw [this]
theorem strEq (a b : ByteArray) : (a.toList == b.toList) = decide (a = b) := by
  by_cases h : a = b
  · simp [h]
  · rw [decide_eq_false h, beq_eq_false_iff_ne]; exact fun e => h (toList_inj e)

set_option maxHeartbeats 3200000 in
theorem equal_spec (w : World) (L : List Nat) (a b : Mark) (A1 A2 : Option Addr) (c1 c2 : Nat) (h1 : Sl (Rp.int .i64) w L (.slice A1 a.n.length c1) a.n) (h2 : Sl (Rp.int .i64) w L (.slice A2 b.n.length c2) b.n) :
    Calls Try.prog 17 #[.agg (mcells a (.slice A1 a.n.length c1)).toArray, .agg (mcells b (.slice A2 b.n.length c2)).toArray] w fun e w' => e = .returned (.bool (decide (a = b))) ∧ Below w.heap.size w w' := by
  obtain ⟨p, x, y, f, s, c, n, k, N⟩ := a
  obtain ⟨p', x', y', f', s', c', n', k', N'⟩ := b
  simp only [mcells] at *
  have st := two_start w [.int .i64 p, .int .i64 x, .int .i64 y, .int .i64 f, .int .i64 s, .string c, .string n, .string k, .slice A1 N.length c1] [.int .i64 p', .int .i64 x', .int .i64 y', .int .i64 f', .int .i64 s', .string c', .string n', .string k', .slice A2 N'.length c2] 45 45
  have St := Lib.hid st
  clear st
  have hq := fun w => eqArr5 w 9998 p x y f s p' x' y' f' s'
  simp only [Nat.reduceAdd] at hq
  by_cases e0 : p = p' ∧ x = x' ∧ y = y' ∧ f = f' ∧ s = s'
  · rw [decide_eq_true e0] at hq
    have E0 := Lib.hid e0
    clear e0
    have hn := strEq n n'
    have hc := strEq c c'
    have hk := strEq k k'
    by_cases e1 : n = n'
    · rw [decide_eq_true e1] at hn
      have E1 := Lib.hid e1
      clear e1
      by_cases e2 : c = c'
      · rw [decide_eq_true e2] at hc
        have E2 := Lib.hid e2
        clear e2
        by_cases e3 : k = k'
        · rw [decide_eq_true e3] at hk
          have E3 := Lib.hid e3
          clear e3
          go_enter Try.func17, Try.ntmps17
          go_wp2_with fail
          refine wp_region_class (C := (fun w' => (∀ o, w'.cell? ⟨w.heap.size, o, none⟩ = ([.int .i64 p, .int .i64 x, .int .i64 y, .int .i64 f, .int .i64 s, .string c, .string n, .string k, .slice A1 N.length c1] : List Value)[o]?) ∧ (∀ o, w'.cell? ⟨w.heap.size + 1, o, none⟩ = ([.int .i64 p', .int .i64 x', .int .i64 y', .int .i64 f', .int .i64 s', .string c', .string n', .string k', .slice A2 N'.length c2] : List Value)[o]?) ∧ Below w.heap.size w w' ∧ w.heap.size + 1 < w'.heap.size)) (by kernel_rfl) (by kernel_rfl) St.out ?_
          repeat (
            first
            | go_big_quiet_skip
            | (go_big_quiet_want
               first
               | (go_big_quiet_op; go_big_quiet_on)
               | (apply Exists.intro
                  refine And.intro (fun W hW => ?_) ?_
                  · have g1 := hW.1
                    have g2 := hW.2.1
                    have gB := hW.2.2.1
                    have gS := hW.2.2.2
                    clear hW
                    unfold Oper.quietAt
                    go_simp
                    first
                    | (go_at_call 21; refine (ints_any _ _ _ _ _ _ _ _ _ _).mono ?_; rintro e w' ⟨rfl, hb⟩; exact ⟨rfl, two_keep g1 g2 gB gS hb⟩)
                    | (go_at_call 22; refine (intsEqual _ L _ _ _ _ _ _ (h1.below gB) (h2.below gB)).mono ?_; rintro e w' ⟨rfl, qn, rfl⟩; exact ⟨rfl, two_keep g1 g2 gB gS (below_drewN (Below.refl _ _) qn)⟩)
                    | exact rfl
                  go_big_quiet_on
                  simp only [Act.put, List.setIfInBounds_toArray, List.set_cons_zero, List.set_cons_succ])))
          refine wpQuiet_nil ?_
          intro w1 hw1
          have gB := hw1.2.2.1
          clear hw1
          go_wp2
          go_ret
          exact ⟨ret_bool (by simp [E0.out, E1.out, E2.out, E3.out]), gB⟩
        · rw [decide_eq_false e3] at hk
          have E3 := Lib.hid e3
          clear e3
          go_enter Try.func17, Try.ntmps17
          go_wp2_with fail
          refine wp_region_class (C := (fun w' => (∀ o, w'.cell? ⟨w.heap.size, o, none⟩ = ([.int .i64 p, .int .i64 x, .int .i64 y, .int .i64 f, .int .i64 s, .string c, .string n, .string k, .slice A1 N.length c1] : List Value)[o]?) ∧ (∀ o, w'.cell? ⟨w.heap.size + 1, o, none⟩ = ([.int .i64 p', .int .i64 x', .int .i64 y', .int .i64 f', .int .i64 s', .string c', .string n', .string k', .slice A2 N'.length c2] : List Value)[o]?) ∧ Below w.heap.size w w' ∧ w.heap.size + 1 < w'.heap.size)) (by kernel_rfl) (by kernel_rfl) St.out ?_
          repeat (
            first
            | go_big_quiet_skip
            | (go_big_quiet_want
               first
               | (go_big_quiet_op; go_big_quiet_on)
               | (apply Exists.intro
                  refine And.intro (fun W hW => ?_) ?_
                  · have g1 := hW.1
                    have g2 := hW.2.1
                    have gB := hW.2.2.1
                    have gS := hW.2.2.2
                    clear hW
                    unfold Oper.quietAt
                    go_simp
                    first
                    | (go_at_call 21; refine (ints_any _ _ _ _ _ _ _ _ _ _).mono ?_; rintro e w' ⟨rfl, hb⟩; exact ⟨rfl, two_keep g1 g2 gB gS hb⟩)
                    | (go_at_call 22; refine (intsEqual _ L _ _ _ _ _ _ (h1.below gB) (h2.below gB)).mono ?_; rintro e w' ⟨rfl, qn, rfl⟩; exact ⟨rfl, two_keep g1 g2 gB gS (below_drewN (Below.refl _ _) qn)⟩)
                    | exact rfl
                  go_big_quiet_on
                  simp only [Act.put, List.setIfInBounds_toArray, List.set_cons_zero, List.set_cons_succ])))
          refine wpQuiet_nil ?_
          intro w1 hw1
          have gB := hw1.2.2.1
          clear hw1
          go_wp2
          go_ret
          exact ⟨ret_bool (by simp [E3.out]), gB⟩
      · rw [decide_eq_false e2] at hc
        have E2 := Lib.hid e2
        clear e2
        go_enter Try.func17, Try.ntmps17
        go_wp2_with fail
        refine wp_region_class (C := (fun w' => (∀ o, w'.cell? ⟨w.heap.size, o, none⟩ = ([.int .i64 p, .int .i64 x, .int .i64 y, .int .i64 f, .int .i64 s, .string c, .string n, .string k, .slice A1 N.length c1] : List Value)[o]?) ∧ (∀ o, w'.cell? ⟨w.heap.size + 1, o, none⟩ = ([.int .i64 p', .int .i64 x', .int .i64 y', .int .i64 f', .int .i64 s', .string c', .string n', .string k', .slice A2 N'.length c2] : List Value)[o]?) ∧ Below w.heap.size w w' ∧ w.heap.size + 1 < w'.heap.size)) (by kernel_rfl) (by kernel_rfl) St.out ?_
        repeat (
          first
          | go_big_quiet_skip
          | (go_big_quiet_want
             first
             | (go_big_quiet_op; go_big_quiet_on)
             | (apply Exists.intro
                refine And.intro (fun W hW => ?_) ?_
                · have g1 := hW.1
                  have g2 := hW.2.1
                  have gB := hW.2.2.1
                  have gS := hW.2.2.2
                  clear hW
                  unfold Oper.quietAt
                  go_simp
                  first
                  | (go_at_call 21; refine (ints_any _ _ _ _ _ _ _ _ _ _).mono ?_; rintro e w' ⟨rfl, hb⟩; exact ⟨rfl, two_keep g1 g2 gB gS hb⟩)
                  | (go_at_call 22; refine (intsEqual _ L _ _ _ _ _ _ (h1.below gB) (h2.below gB)).mono ?_; rintro e w' ⟨rfl, qn, rfl⟩; exact ⟨rfl, two_keep g1 g2 gB gS (below_drewN (Below.refl _ _) qn)⟩)
                  | exact rfl
                go_big_quiet_on
                simp only [Act.put, List.setIfInBounds_toArray, List.set_cons_zero, List.set_cons_succ])))
        refine wpQuiet_nil ?_
        intro w1 hw1
        have gB := hw1.2.2.1
        clear hw1
        go_wp2
        go_ret
        exact ⟨ret_bool (by simp [E2.out]), gB⟩
    · rw [decide_eq_false e1] at hn
      have E1 := Lib.hid e1
      clear e1
      go_enter Try.func17, Try.ntmps17
      go_wp2_with fail
      refine wp_region_class (C := (fun w' => (∀ o, w'.cell? ⟨w.heap.size, o, none⟩ = ([.int .i64 p, .int .i64 x, .int .i64 y, .int .i64 f, .int .i64 s, .string c, .string n, .string k, .slice A1 N.length c1] : List Value)[o]?) ∧ (∀ o, w'.cell? ⟨w.heap.size + 1, o, none⟩ = ([.int .i64 p', .int .i64 x', .int .i64 y', .int .i64 f', .int .i64 s', .string c', .string n', .string k', .slice A2 N'.length c2] : List Value)[o]?) ∧ Below w.heap.size w w' ∧ w.heap.size + 1 < w'.heap.size)) (by kernel_rfl) (by kernel_rfl) St.out ?_
      repeat (
        first
        | go_big_quiet_skip
        | (go_big_quiet_want
           first
           | (go_big_quiet_op; go_big_quiet_on)
           | (apply Exists.intro
              refine And.intro (fun W hW => ?_) ?_
              · have g1 := hW.1
                have g2 := hW.2.1
                have gB := hW.2.2.1
                have gS := hW.2.2.2
                clear hW
                unfold Oper.quietAt
                go_simp
                first
                | (go_at_call 21; refine (ints_any _ _ _ _ _ _ _ _ _ _).mono ?_; rintro e w' ⟨rfl, hb⟩; exact ⟨rfl, two_keep g1 g2 gB gS hb⟩)
                | (go_at_call 22; refine (intsEqual _ L _ _ _ _ _ _ (h1.below gB) (h2.below gB)).mono ?_; rintro e w' ⟨rfl, qn, rfl⟩; exact ⟨rfl, two_keep g1 g2 gB gS (below_drewN (Below.refl _ _) qn)⟩)
                | exact rfl
              go_big_quiet_on
              simp only [Act.put, List.setIfInBounds_toArray, List.set_cons_zero, List.set_cons_succ])))
      refine wpQuiet_nil ?_
      intro w1 hw1
      have gB := hw1.2.2.1
      clear hw1
      go_wp2
      go_ret
      exact ⟨ret_bool (by simp [E1.out]), gB⟩
  · rw [decide_eq_false e0] at hq
    have E0 := Lib.hid e0
    clear e0
    go_enter Try.func17, Try.ntmps17
    go_wp2_with fail
    refine wp_region_class (C := (fun w' => (∀ o, w'.cell? ⟨w.heap.size, o, none⟩ = ([.int .i64 p, .int .i64 x, .int .i64 y, .int .i64 f, .int .i64 s, .string c, .string n, .string k, .slice A1 N.length c1] : List Value)[o]?) ∧ (∀ o, w'.cell? ⟨w.heap.size + 1, o, none⟩ = ([.int .i64 p', .int .i64 x', .int .i64 y', .int .i64 f', .int .i64 s', .string c', .string n', .string k', .slice A2 N'.length c2] : List Value)[o]?) ∧ Below w.heap.size w w' ∧ w.heap.size + 1 < w'.heap.size)) (by kernel_rfl) (by kernel_rfl) St.out ?_
    repeat (
      first
      | go_big_quiet_skip
      | (go_big_quiet_want
         first
         | (go_big_quiet_op; go_big_quiet_on)
         | (apply Exists.intro
            refine And.intro (fun W hW => ?_) ?_
            · have g1 := hW.1
              have g2 := hW.2.1
              have gB := hW.2.2.1
              have gS := hW.2.2.2
              clear hW
              unfold Oper.quietAt
              go_simp
              first
              | (go_at_call 21; refine (ints_any _ _ _ _ _ _ _ _ _ _).mono ?_; rintro e w' ⟨rfl, hb⟩; exact ⟨rfl, two_keep g1 g2 gB gS hb⟩)
              | (go_at_call 22; refine (intsEqual _ L _ _ _ _ _ _ (h1.below gB) (h2.below gB)).mono ?_; rintro e w' ⟨rfl, qn, rfl⟩; exact ⟨rfl, two_keep g1 g2 gB gS (below_drewN (Below.refl _ _) qn)⟩)
              | exact rfl
            go_big_quiet_on
            simp only [Act.put, List.setIfInBounds_toArray, List.set_cons_zero, List.set_cons_succ])))
    refine wpQuiet_nil ?_
    intro w1 hw1
    have gB := hw1.2.2.1
    clear hw1
    go_wp2
    go_ret
    exact ⟨ret_bool (by rw [decide_eq_false]; intro e; exact E0.out (by simp only [Mark.mk.injEq] at e; exact ⟨e.1, e.2.1, e.2.2.1, e.2.2.2.1, e.2.2.2.2.1⟩)), gB⟩
end Go.Proofs.Ytfejkaemledipaa
