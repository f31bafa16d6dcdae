/- The edits of the least cost: what compare.Least gives (not finished). -/
import Derived.Test.YtfejkaemledipaaEdits36
namespace Go.Proofs.Ytfejkaemledipaa
open Go.RowKit

theorem OwnS.weak {α : Type} {d : Rp α} {e : TypeId} {w : World} {base base' : Nat} {L : List Nat} {v : Value} {xs : List α} (h : OwnS d e w base L v xs) (hb : base' ≤ base) : OwnS d e w base' L v xs := by
  obtain ⟨cells, ⟨hl, h | ⟨g, cap, cur, rfl, hg, hr⟩⟩, h2, h3⟩ := h
  · exact ⟨cells, ⟨hl, .inl h⟩, h2, h3⟩
  · exact ⟨cells, ⟨hl, .inr ⟨g, cap, cur, rfl, Nat.le_trans hb hg, hr⟩⟩, h2, h3⟩
theorem edits_kk {N : Int} {xs ys : List Page} {i k : Nat} (hi : i < xs.length) (hk : k < ys.length) : edits N i k (xs.drop i) (ys.drop k) =
    if xs[i].number = ys[k].number ∧ xs[i] = ys[k] ∧ cst N (xs.drop i) (ys.drop k) = cst N (xs.drop (i + 1)) (ys.drop (k + 1)) then ⟨0, i, k⟩ :: edits N (i + 1) (k + 1) (xs.drop (i + 1)) (ys.drop (k + 1))
    else if xs[i].number = ys[k].number ∧ xs[i] ≠ ys[k] ∧ cst N (xs.drop i) (ys.drop k) = 1 + cst N (xs.drop (i + 1)) (ys.drop (k + 1)) then ⟨3, i, k⟩ :: edits N (i + 1) (k + 1) (xs.drop (i + 1)) (ys.drop (k + 1))
    else if cst N (xs.drop i) (ys.drop k) = 1 + cst N (xs.drop (i + 1)) (ys.drop k) then ⟨1, i, 0⟩ :: edits N (i + 1) k (xs.drop (i + 1)) (ys.drop k)
    else ⟨2, 0, k⟩ :: edits N i (k + 1) (xs.drop i) (ys.drop (k + 1)) := by
  rw [List.drop_eq_getElem_cons hi, List.drop_eq_getElem_cons hk, edits]
theorem edits_kn {N : Int} {xs ys : List Page} {i k : Nat} (hi : i < xs.length) (hk : ¬ k < ys.length) : edits N i k (xs.drop i) (ys.drop k) = ⟨1, i, 0⟩ :: edits N (i + 1) k (xs.drop (i + 1)) (ys.drop k) := by
  rw [drop_nil hk, List.drop_eq_getElem_cons hi, edits]
theorem cst_kn' {xs ys : List Page} {i k : Nat} (hi : i < xs.length) (hk : ¬ k < ys.length) : cst ((xs.length : Int) + ys.length + 1) (xs.drop i) (ys.drop k) = 1 + cst ((xs.length : Int) + ys.length + 1) (xs.drop (i + 1)) (ys.drop k) := by
  have := cst_len ((xs.length : Int) + ys.length + 1) (xs.drop (i + 1)) (ys.drop k)
  rw [List.length_drop, List.length_drop] at this
  rw [cst_kn hi hk]
  omega
set_option maxRecDepth 100000 in
set_option maxHeartbeats 40000000 in
theorem least_spec (w : World) (L : List Nat) (A B : Option Addr) (c d : Nat) (xs ys : List Page) (hx : Sl rPage w L (.slice A xs.length c) xs) (hy : Sl rPage w L (.slice B ys.length d) ys) (hL : ∀ b ∈ L, b < w.heap.size) (hnx : xs.length ≤ 200) (hny : ys.length ≤ 200) :
    Calls Try.prog 12 #[.slice A xs.length c, .slice B ys.length d] w fun e w' => ∃ v, e = .returned (.tuple #[v, .int .i64 0]) ∧ OwnS rEdit 42 w' w.heap.size L v (edits ((xs.length : Int) + ys.length + 1) 0 0 xs ys) ∧ Below w.heap.size w w' := by
  have HX := Lib.hid hx
  have HY := Lib.hid hy
  have HL := Lib.hid hL
  have hmx : ¬ 200 < max (xs.length : Int) (ys.length : Int) := by omega
  clear hx hy hL
  go_enter Try.func12, Try.ntmps12
  go_wp2_with fail
  refine (tabled_spec _ L _ _ _ _ xs ys HX.out HY.out HL.out hnx hny).mono ?_
  rintro e wt ⟨g1, e1, g2, e2, r1, r2, f, s, rfl, hT, hD, hB1⟩
  go_wp2_with fail
  have c0 := new_cells wt [.slice (some ⟨g1, 0, none⟩) (xs.length + 1) e1, .slice (some ⟨g2, 0, none⟩) (xs.length + 1) e2] 53 0 _ rfl
  have c1 := new_cells wt [.slice (some ⟨g1, 0, none⟩) (xs.length + 1) e1, .slice (some ⟨g2, 0, none⟩) (xs.length + 1) e2] 53 1 _ rfl
  have hA : Below wt.heap.size wt (wt.alloc (.cells #[.slice (some ⟨g1, 0, none⟩) (xs.length + 1) e1, .slice (some ⟨g2, 0, none⟩) (xs.length + 1) e2] 53)) := (Below.refl _ _).alloc (Nat.le_refl _) _
  refine wp_abs ?_
  intro w2 hw2
  simp only [List.toArray] at c0 c1
  rw [← hw2] at c0 c1 hA
  have HT2 : Hid (Grid (Value.int .i64) w2 w.heap.size (avs w.heap.size g2 r2 (xs.length + 1)) g1 r1 (xs.length + 1) (ys.length + 1) f ∧ Grid Value.bool w2 w.heap.size (avs w.heap.size g1 r1 (xs.length + 1)) g2 r2 (xs.length + 1) (ys.length + 1) s) := Lib.hid ⟨hT.1.below hA, hT.2.below hA⟩
  have hB2 := below_trans hB1 hA hB1.size
  have HD := Lib.hid hD
  have HC0 := Lib.hid c0
  have HC1 := Lib.hid c1
  have hlt2 : wt.heap.size < w2.heap.size := by rw [hw2]; simp
  clear hT hD c0 c1 hA hw2 hB1 hmx
  go_loopw [7, 8, 9] (fun v i k wr => ∃ (i' k' : Nat) (r : Value) (acc : List Edit), r = v ∧ i = .int .i64 i' ∧ k = .int .i64 k' ∧ i' ≤ xs.length ∧ k' ≤ ys.length ∧ Below w2.heap.size w2 wr ∧ OwnS rEdit 42 wr w2.heap.size L r acc ∧ acc ++ edits ((xs.length : Int) + ys.length + 1) i' k' (xs.drop i') (ys.drop k') = edits ((xs.length : Int) + ys.length + 1) 0 0 xs ys ∧ acc.length ≤ i' + k') (fun _ i k _ => (xs.length - (intOf i).toNat) + (ys.length - (intOf k).toNat))
  case atStart => exact ⟨0, 0, _, [], rfl, rfl, rfl, Nat.zero_le _, Nat.zero_le _, Below.refl _ _, OwnS.nil _ _ _ _ _, rfl, Nat.le_refl _⟩
  case round =>
    obtain ⟨i, k, v, acc, rfl, rfl, rfl, hi, hk, hB, hO, he, hl⟩ := hrel
    have HB := Lib.hid hB
    have HO := Lib.hid hO
    have HE := Lib.hid he
    clear hO he
    by_cases hin : i < xs.length
    · have j1 : (i : Int) < (xs.length : Int) := by omega
      by_cases hkm : k < ys.length
      · have j2 : (k : Int) < (ys.length : Int) := by omega
        have HH := Lib.hid (And.intro hin hkm)
        have HXr := below_trans hB2 hB hB2.size
        obtain ⟨xb, xo, A1, d1, rfl, xl, xm, x0, x1⟩ := page_cells (HX.out.below HXr) hin
        obtain ⟨yb, yo, B1, d2, rfl, yl, ym, y0, y3⟩ := page_cells (HY.out.below HXr) hkm
        have HK := Lib.hid (edits_kk (N := (xs.length : Int) + ys.length + 1) hin hkm)
        have HS := Lib.hid (fun hn => (HD.out i k (by omega) (by omega) (by omega)).2 hin hkm hn)
        generalize hpx : xs[i] = px at *
        generalize hpy : ys[k] = py at *
        clear xm ym hpx hpy HXr x1 y3
        by_cases hnum : px.number = py.number
        · have g0 : (px.number == py.number) = true := by simp [hnum]
          have HN := Lib.hid hnum
          clear hnum hin hkm
          go_wp2_with fail
          have jq1 : decide (i < xs.length) = true := by have := HH.out.1; simp; omega
          have jq2 : decide (k < ys.length) = true := by have := HH.out.2; simp; omega
          refine wp_region_below (by kernel_rfl) (by kernel_rfl) ?_
          repeat (
            first
            | go_big_quiet_skip
            | (go_big_quiet_want
               first
               | (go_big_quiet_op; go_big_quiet_on)
               | (apply Exists.intro
                  refine And.intro (fun W hW => ?_) ?_
                  · have gc := fun b o h => hW.cell (p := ⟨b, o, none⟩) h
                    unfold Oper.quietAt
                    go_simp
                    first
                    | fail
                    | exact rfl
                  go_big_quiet_on
                  simp only [Act.put, List.setIfInBounds_toArray, List.set_cons_zero, List.set_cons_succ])))
          refine wpQuiet_nil ?_
          intro w1 hb1
          have hB3 := below_trans HB.out hb1 HB.out.size
          have HB3 := Lib.hid hB3
          have a1 := cell_up hB3 HC0.out
          have a2 := cell_up hB3 HC1.out
          have G1 := (HT2.out.1.below hB3).2.2.2
          have G2 := (HT2.out.2.below hB3).2.2.2
          have b1 := (G1 i (by have := HH.out; omega)).1
          have b2 := ((G1 i (by have := HH.out; omega)).2.2.2.2.2.2 k (by have := HH.out; omega)).1
          obtain ⟨z0, hz0, Hz0, z00, z0N⟩ := HD.out.get (i2 := i) (k2 := k) (by omega) (by omega) (by omega) (by omega)
          rw [hz0] at b2
          have HZ0 := Lib.hid Hz0
          have b5 := (G1 (i + 1) (by have := HH.out; omega)).1
          have b6 := ((G1 (i + 1) (by have := HH.out; omega)).2.2.2.2.2.2 k (by have := HH.out; omega)).1
          obtain ⟨z2, hz2, Hz2, z20, z2N⟩ := HD.out.get (i2 := i + 1) (k2 := k) (by omega) (by have := HH.out; omega) (by omega) (by omega)
          rw [hz2] at b6
          have HZ2 := Lib.hid Hz2
          have k2 : (0 : Int) ≤ (i : Int) + 1 := by omega
          have l3 : (i : Int) < (xs.length : Int) + 1 := by omega
          have l4 : (k : Int) < (ys.length : Int) + 1 := by have := HH.out; omega
          have HO3 := Lib.hid (HO.out.below hb1)
          clear Hz0 hz0 Hz2 hz2 hb1 hB
          have t1 := (G2 i (by have := HH.out; omega)).1
          have t2 := ((G2 i (by have := HH.out; omega)).2.2.2.2.2.2 k (by have := HH.out; omega)).1
          rw [HS.out HN.out] at t2
          have b8 := ((G1 (i + 1) (by have := HH.out; omega)).2.2.2.2.2.2 (k + 1) (by have := HH.out; omega)).1
          obtain ⟨z3, hz3, Hz3, z30, z3N⟩ := HD.out.get (i2 := i + 1) (k2 := k + 1) (by omega) (by have := HH.out; omega) (by have := HH.out; omega) (by omega)
          rw [hz3] at b8
          have HZ3 := Lib.hid Hz3
          have k3 : (0 : Int) ≤ (k : Int) + 1 := by omega
          clear Hz3 hz3 G1 G2
          by_cases hpp : px = py
          · rw [decide_eq_true hpp] at t2
            have HP := Lib.hid hpp
            clear hpp
            by_cases e1 : z0 = z3
            · have t4 : (z0 == z3) = true := by simp [e1]
              have HQ : Hid (z0 = z3) := Lib.hid e1
              clear e1
              have l1 : acc.length ≤ 400 := by omega
              go_wp2_with (
                at_builtin
                refine wpList_push1 rEdit (by rfl) _ _ _ (by rfl) w2.heap.size 42 _ 24 L acc ⟨0, i, k⟩ [.int .i64 0, .int .i64 i, .int .i64 k] v w1.heap.size Try.underlying37 infoEdit (by rfl) (by decide) (by rfl) ?hO (by rfl) ?hc ?hy ?hl ?h63 ?hb ?hL ?_
                rotate_right
                intro g cap w4 hO4 hgr4 hfr4 hat4 hlt4)
              case hO => exact HO3.out.below ((Below.refl _ _).alloc (Nat.le_refl _) _)
              case hc => exact new_cells w1 [_, _, _] _
              case hy => exact rEdit_mk _ _ _
              case hl => omega
              case h63 => omega
              case hb => have := HB3.out.size; simp; omega
              case hL => intro b hb; have := HL.out b hb; have := HB3.out.size; have := hB2.size; simp; omega
              have hB4 : Below w2.heap.size w2 w4 := hfr4 _ _ (HB3.out.alloc HB3.out.size _) (Nat.le_refl _)
              have HE4 : Hid ((acc ++ [⟨0, i, k⟩]) ++ edits ((xs.length : Int) + ys.length + 1) (i + 1) (k + 1) (xs.drop (i + 1)) (ys.drop (k + 1)) = edits ((xs.length : Int) + ys.length + 1) 0 0 xs ys) := Lib.hid (by
                rw [← HE.out]
                rw [HK.out, if_pos ⟨HN.out, HP.out, by rw [← HZ0.out, ← HZ3.out]; exact HQ.out⟩]
                rw [List.append_assoc]; rfl)
              have HO4 := Lib.hid hO4
              clear hO4 hgr4 hfr4 hat4 hlt4
              go_wp2_with fail
              go_roundw
              case rel => exact ⟨i + 1, k + 1, _, _, rfl, by go_num, by go_num, by have := HH.out; omega, by have := HH.out; omega, hB4, HO4.out, HE4.out, by simp; omega⟩
              case measure => simp [intOf] <;> have := HH.out <;> omega
            · have t4 : (z0 == z3) = false := by simp [e1]
              have HQ3 : Hid (¬ z0 = z3) := Lib.hid e1
              clear e1
              by_cases e3 : z0 = 1 + z2
              · have t3 : (z0 == 1 + z2) = true := by simp [e3]
                have HQ : Hid (z0 = 1 + z2) := Lib.hid e3
                clear e3
                have l1 : acc.length ≤ 400 := by omega
                go_wp2_with (
                  at_builtin
                  refine wpList_push1 rEdit (by rfl) _ _ _ (by rfl) w2.heap.size 42 _ 24 L acc ⟨1, i, 0⟩ [.int .i64 1, .int .i64 i, .int .i64 0] v w1.heap.size Try.underlying37 infoEdit (by rfl) (by decide) (by rfl) ?hO (by rfl) ?hc ?hy ?hl ?h63 ?hb ?hL ?_
                  rotate_right
                  intro g cap w4 hO4 hgr4 hfr4 hat4 hlt4)
                case hO => exact HO3.out.below ((Below.refl _ _).alloc (Nat.le_refl _) _)
                case hc => exact new_cells w1 [_, _, _] _
                case hy => exact rEdit_mk _ _ _
                case hl => omega
                case h63 => omega
                case hb => have := HB3.out.size; simp; omega
                case hL => intro b hb; have := HL.out b hb; have := HB3.out.size; have := hB2.size; simp; omega
                have hB4 : Below w2.heap.size w2 w4 := hfr4 _ _ (HB3.out.alloc HB3.out.size _) (Nat.le_refl _)
                have HE4 : Hid ((acc ++ [⟨1, i, 0⟩]) ++ edits ((xs.length : Int) + ys.length + 1) (i + 1) (k) (xs.drop (i + 1)) (ys.drop (k)) = edits ((xs.length : Int) + ys.length + 1) 0 0 xs ys) := Lib.hid (by
                  rw [← HE.out]
                  rw [HK.out, if_neg (fun h => HQ3.out (by rw [HZ0.out, HZ3.out]; exact h.2.2)), if_neg (fun h => h.2.1 HP.out), if_pos (by rw [← HZ0.out, ← HZ2.out]; exact HQ.out)]
                  rw [List.append_assoc]; rfl)
                have HO4 := Lib.hid hO4
                clear hO4 hgr4 hfr4 hat4 hlt4
                go_wp2_with fail
                go_roundw
                case rel => exact ⟨i + 1, k, _, _, rfl, by go_num, by go_num, by have := HH.out; omega, by have := HH.out; omega, hB4, HO4.out, HE4.out, by simp; omega⟩
                case measure => simp [intOf] <;> have := HH.out <;> omega
              · have t3 : (z0 == 1 + z2) = false := by simp [e3]
                have HQ : Hid (¬ z0 = 1 + z2) := Lib.hid e3
                clear e3
                have l1 : acc.length ≤ 400 := by omega
                go_wp2_with (
                  at_builtin
                  refine wpList_push1 rEdit (by rfl) _ _ _ (by rfl) w2.heap.size 42 _ 24 L acc ⟨2, 0, k⟩ [.int .i64 2, .int .i64 0, .int .i64 k] v w1.heap.size Try.underlying37 infoEdit (by rfl) (by decide) (by rfl) ?hO (by rfl) ?hc ?hy ?hl ?h63 ?hb ?hL ?_
                  rotate_right
                  intro g cap w4 hO4 hgr4 hfr4 hat4 hlt4)
                case hO => exact HO3.out.below ((Below.refl _ _).alloc (Nat.le_refl _) _)
                case hc => exact new_cells w1 [_, _, _] _
                case hy => exact rEdit_mk _ _ _
                case hl => omega
                case h63 => omega
                case hb => have := HB3.out.size; simp; omega
                case hL => intro b hb; have := HL.out b hb; have := HB3.out.size; have := hB2.size; simp; omega
                have hB4 : Below w2.heap.size w2 w4 := hfr4 _ _ (HB3.out.alloc HB3.out.size _) (Nat.le_refl _)
                have HE4 : Hid ((acc ++ [⟨2, 0, k⟩]) ++ edits ((xs.length : Int) + ys.length + 1) (i) (k + 1) (xs.drop (i)) (ys.drop (k + 1)) = edits ((xs.length : Int) + ys.length + 1) 0 0 xs ys) := Lib.hid (by
                  rw [← HE.out]
                  rw [HK.out, if_neg (fun h => HQ3.out (by rw [HZ0.out, HZ3.out]; exact h.2.2)), if_neg (fun h => h.2.1 HP.out), if_neg (by rw [← HZ0.out, ← HZ2.out]; exact HQ.out)]
                  rw [List.append_assoc]; rfl)
                have HO4 := Lib.hid hO4
                clear hO4 hgr4 hfr4 hat4 hlt4
                go_wp2_with fail
                go_roundw
                case rel => exact ⟨i, k + 1, _, _, rfl, by go_num, by go_num, by have := HH.out; omega, by have := HH.out; omega, hB4, HO4.out, HE4.out, by simp; omega⟩
                case measure => simp [intOf] <;> have := HH.out <;> omega
          · rw [decide_eq_false hpp] at t2
            have HP := Lib.hid hpp
            clear hpp
            by_cases e1 : z0 = 1 + z3
            · have t4 : (z0 == 1 + z3) = true := by simp [e1]
              have HQ : Hid (z0 = 1 + z3) := Lib.hid e1
              clear e1
              have l1 : acc.length ≤ 400 := by omega
              go_wp2_with (
                at_builtin
                refine wpList_push1 rEdit (by rfl) _ _ _ (by rfl) w2.heap.size 42 _ 24 L acc ⟨3, i, k⟩ [.int .i64 3, .int .i64 i, .int .i64 k] v w1.heap.size Try.underlying37 infoEdit (by rfl) (by decide) (by rfl) ?hO (by rfl) ?hc ?hy ?hl ?h63 ?hb ?hL ?_
                rotate_right
                intro g cap w4 hO4 hgr4 hfr4 hat4 hlt4)
              case hO => exact HO3.out.below ((Below.refl _ _).alloc (Nat.le_refl _) _)
              case hc => exact new_cells w1 [_, _, _] _
              case hy => exact rEdit_mk _ _ _
              case hl => omega
              case h63 => omega
              case hb => have := HB3.out.size; simp; omega
              case hL => intro b hb; have := HL.out b hb; have := HB3.out.size; have := hB2.size; simp; omega
              have hB4 : Below w2.heap.size w2 w4 := hfr4 _ _ (HB3.out.alloc HB3.out.size _) (Nat.le_refl _)
              have HE4 : Hid ((acc ++ [⟨3, i, k⟩]) ++ edits ((xs.length : Int) + ys.length + 1) (i + 1) (k + 1) (xs.drop (i + 1)) (ys.drop (k + 1)) = edits ((xs.length : Int) + ys.length + 1) 0 0 xs ys) := Lib.hid (by
                rw [← HE.out]
                rw [HK.out, if_neg (fun h => HP.out h.2.1), if_pos ⟨HN.out, HP.out, by rw [← HZ0.out, ← HZ3.out]; exact HQ.out⟩]
                rw [List.append_assoc]; rfl)
              have HO4 := Lib.hid hO4
              clear hO4 hgr4 hfr4 hat4 hlt4
              go_wp2_with fail
              go_roundw
              case rel => exact ⟨i + 1, k + 1, _, _, rfl, by go_num, by go_num, by have := HH.out; omega, by have := HH.out; omega, hB4, HO4.out, HE4.out, by simp; omega⟩
              case measure => simp [intOf] <;> have := HH.out <;> omega
            · have t4 : (z0 == 1 + z3) = false := by simp [e1]
              have HQ3 : Hid (¬ z0 = 1 + z3) := Lib.hid e1
              clear e1
              by_cases e3 : z0 = 1 + z2
              · have t3 : (z0 == 1 + z2) = true := by simp [e3]
                have HQ : Hid (z0 = 1 + z2) := Lib.hid e3
                clear e3
                have l1 : acc.length ≤ 400 := by omega
                go_wp2_with (
                  at_builtin
                  refine wpList_push1 rEdit (by rfl) _ _ _ (by rfl) w2.heap.size 42 _ 24 L acc ⟨1, i, 0⟩ [.int .i64 1, .int .i64 i, .int .i64 0] v w1.heap.size Try.underlying37 infoEdit (by rfl) (by decide) (by rfl) ?hO (by rfl) ?hc ?hy ?hl ?h63 ?hb ?hL ?_
                  rotate_right
                  intro g cap w4 hO4 hgr4 hfr4 hat4 hlt4)
                case hO => exact HO3.out.below ((Below.refl _ _).alloc (Nat.le_refl _) _)
                case hc => exact new_cells w1 [_, _, _] _
                case hy => exact rEdit_mk _ _ _
                case hl => omega
                case h63 => omega
                case hb => have := HB3.out.size; simp; omega
                case hL => intro b hb; have := HL.out b hb; have := HB3.out.size; have := hB2.size; simp; omega
                have hB4 : Below w2.heap.size w2 w4 := hfr4 _ _ (HB3.out.alloc HB3.out.size _) (Nat.le_refl _)
                have HE4 : Hid ((acc ++ [⟨1, i, 0⟩]) ++ edits ((xs.length : Int) + ys.length + 1) (i + 1) (k) (xs.drop (i + 1)) (ys.drop (k)) = edits ((xs.length : Int) + ys.length + 1) 0 0 xs ys) := Lib.hid (by
                  rw [← HE.out]
                  rw [HK.out, if_neg (fun h => HP.out h.2.1), if_neg (fun h => HQ3.out (by rw [HZ0.out, HZ3.out]; exact h.2.2)), if_pos (by rw [← HZ0.out, ← HZ2.out]; exact HQ.out)]
                  rw [List.append_assoc]; rfl)
                have HO4 := Lib.hid hO4
                clear hO4 hgr4 hfr4 hat4 hlt4
                go_wp2_with fail
                go_roundw
                case rel => exact ⟨i + 1, k, _, _, rfl, by go_num, by go_num, by have := HH.out; omega, by have := HH.out; omega, hB4, HO4.out, HE4.out, by simp; omega⟩
                case measure => simp [intOf] <;> have := HH.out <;> omega
              · have t3 : (z0 == 1 + z2) = false := by simp [e3]
                have HQ : Hid (¬ z0 = 1 + z2) := Lib.hid e3
                clear e3
                have l1 : acc.length ≤ 400 := by omega
                go_wp2_with (
                  at_builtin
                  refine wpList_push1 rEdit (by rfl) _ _ _ (by rfl) w2.heap.size 42 _ 24 L acc ⟨2, 0, k⟩ [.int .i64 2, .int .i64 0, .int .i64 k] v w1.heap.size Try.underlying37 infoEdit (by rfl) (by decide) (by rfl) ?hO (by rfl) ?hc ?hy ?hl ?h63 ?hb ?hL ?_
                  rotate_right
                  intro g cap w4 hO4 hgr4 hfr4 hat4 hlt4)
                case hO => exact HO3.out.below ((Below.refl _ _).alloc (Nat.le_refl _) _)
                case hc => exact new_cells w1 [_, _, _] _
                case hy => exact rEdit_mk _ _ _
                case hl => omega
                case h63 => omega
                case hb => have := HB3.out.size; simp; omega
                case hL => intro b hb; have := HL.out b hb; have := HB3.out.size; have := hB2.size; simp; omega
                have hB4 : Below w2.heap.size w2 w4 := hfr4 _ _ (HB3.out.alloc HB3.out.size _) (Nat.le_refl _)
                have HE4 : Hid ((acc ++ [⟨2, 0, k⟩]) ++ edits ((xs.length : Int) + ys.length + 1) (i) (k + 1) (xs.drop (i)) (ys.drop (k + 1)) = edits ((xs.length : Int) + ys.length + 1) 0 0 xs ys) := Lib.hid (by
                  rw [← HE.out]
                  rw [HK.out, if_neg (fun h => HP.out h.2.1), if_neg (fun h => HQ3.out (by rw [HZ0.out, HZ3.out]; exact h.2.2)), if_neg (by rw [← HZ0.out, ← HZ2.out]; exact HQ.out)]
                  rw [List.append_assoc]; rfl)
                have HO4 := Lib.hid hO4
                clear hO4 hgr4 hfr4 hat4 hlt4
                go_wp2_with fail
                go_roundw
                case rel => exact ⟨i, k + 1, _, _, rfl, by go_num, by go_num, by have := HH.out; omega, by have := HH.out; omega, hB4, HO4.out, HE4.out, by simp; omega⟩
                case measure => simp [intOf] <;> have := HH.out <;> omega
        · have g0 : (px.number == py.number) = false := by simp [hnum]
          have HN := Lib.hid hnum
          clear hnum hin hkm
          go_wp2_with fail
          have jq1 : decide (i < xs.length) = true := by have := HH.out.1; simp; omega
          have jq2 : decide (k < ys.length) = true := by have := HH.out.2; simp; omega
          refine wp_region_below (by kernel_rfl) (by kernel_rfl) ?_
          repeat (
            first
            | go_big_quiet_skip
            | (go_big_quiet_want
               first
               | (go_big_quiet_op; go_big_quiet_on)
               | (apply Exists.intro
                  refine And.intro (fun W hW => ?_) ?_
                  · have gc := fun b o h => hW.cell (p := ⟨b, o, none⟩) h
                    unfold Oper.quietAt
                    go_simp
                    first
                    | fail
                    | exact rfl
                  go_big_quiet_on
                  simp only [Act.put, List.setIfInBounds_toArray, List.set_cons_zero, List.set_cons_succ])))
          refine wpQuiet_nil ?_
          intro w1 hb1
          have hB3 := below_trans HB.out hb1 HB.out.size
          have HB3 := Lib.hid hB3
          have a1 := cell_up hB3 HC0.out
          have a2 := cell_up hB3 HC1.out
          have G1 := (HT2.out.1.below hB3).2.2.2
          have G2 := (HT2.out.2.below hB3).2.2.2
          have b1 := (G1 i (by have := HH.out; omega)).1
          have b2 := ((G1 i (by have := HH.out; omega)).2.2.2.2.2.2 k (by have := HH.out; omega)).1
          obtain ⟨z0, hz0, Hz0, z00, z0N⟩ := HD.out.get (i2 := i) (k2 := k) (by omega) (by omega) (by omega) (by omega)
          rw [hz0] at b2
          have HZ0 := Lib.hid Hz0
          have b5 := (G1 (i + 1) (by have := HH.out; omega)).1
          have b6 := ((G1 (i + 1) (by have := HH.out; omega)).2.2.2.2.2.2 k (by have := HH.out; omega)).1
          obtain ⟨z2, hz2, Hz2, z20, z2N⟩ := HD.out.get (i2 := i + 1) (k2 := k) (by omega) (by have := HH.out; omega) (by omega) (by omega)
          rw [hz2] at b6
          have HZ2 := Lib.hid Hz2
          have k2 : (0 : Int) ≤ (i : Int) + 1 := by omega
          have l3 : (i : Int) < (xs.length : Int) + 1 := by omega
          have l4 : (k : Int) < (ys.length : Int) + 1 := by have := HH.out; omega
          have HO3 := Lib.hid (HO.out.below hb1)
          clear Hz0 hz0 Hz2 hz2 hb1 hB
          clear G1 G2
          by_cases e3 : z0 = 1 + z2
          · have t3 : (z0 == 1 + z2) = true := by simp [e3]
            have HQ : Hid (z0 = 1 + z2) := Lib.hid e3
            clear e3
            have l1 : acc.length ≤ 400 := by omega
            go_wp2_with (
              at_builtin
              refine wpList_push1 rEdit (by rfl) _ _ _ (by rfl) w2.heap.size 42 _ 24 L acc ⟨1, i, 0⟩ [.int .i64 1, .int .i64 i, .int .i64 0] v w1.heap.size Try.underlying37 infoEdit (by rfl) (by decide) (by rfl) ?hO (by rfl) ?hc ?hy ?hl ?h63 ?hb ?hL ?_
              rotate_right
              intro g cap w4 hO4 hgr4 hfr4 hat4 hlt4)
            case hO => exact HO3.out.below ((Below.refl _ _).alloc (Nat.le_refl _) _)
            case hc => exact new_cells w1 [_, _, _] _
            case hy => exact rEdit_mk _ _ _
            case hl => omega
            case h63 => omega
            case hb => have := HB3.out.size; simp; omega
            case hL => intro b hb; have := HL.out b hb; have := HB3.out.size; have := hB2.size; simp; omega
            have hB4 : Below w2.heap.size w2 w4 := hfr4 _ _ (HB3.out.alloc HB3.out.size _) (Nat.le_refl _)
            have HE4 : Hid ((acc ++ [⟨1, i, 0⟩]) ++ edits ((xs.length : Int) + ys.length + 1) (i + 1) (k) (xs.drop (i + 1)) (ys.drop (k)) = edits ((xs.length : Int) + ys.length + 1) 0 0 xs ys) := Lib.hid (by
              rw [← HE.out]
              rw [HK.out, if_neg (fun h => HN.out h.1), if_neg (fun h => HN.out h.1), if_pos (by rw [← HZ0.out, ← HZ2.out]; exact HQ.out)]
              rw [List.append_assoc]; rfl)
            have HO4 := Lib.hid hO4
            clear hO4 hgr4 hfr4 hat4 hlt4
            go_wp2_with fail
            go_roundw
            case rel => exact ⟨i + 1, k, _, _, rfl, by go_num, by go_num, by have := HH.out; omega, by have := HH.out; omega, hB4, HO4.out, HE4.out, by simp; omega⟩
            case measure => simp [intOf] <;> have := HH.out <;> omega
          · have t3 : (z0 == 1 + z2) = false := by simp [e3]
            have HQ : Hid (¬ z0 = 1 + z2) := Lib.hid e3
            clear e3
            have l1 : acc.length ≤ 400 := by omega
            go_wp2_with (
              at_builtin
              refine wpList_push1 rEdit (by rfl) _ _ _ (by rfl) w2.heap.size 42 _ 24 L acc ⟨2, 0, k⟩ [.int .i64 2, .int .i64 0, .int .i64 k] v w1.heap.size Try.underlying37 infoEdit (by rfl) (by decide) (by rfl) ?hO (by rfl) ?hc ?hy ?hl ?h63 ?hb ?hL ?_
              rotate_right
              intro g cap w4 hO4 hgr4 hfr4 hat4 hlt4)
            case hO => exact HO3.out.below ((Below.refl _ _).alloc (Nat.le_refl _) _)
            case hc => exact new_cells w1 [_, _, _] _
            case hy => exact rEdit_mk _ _ _
            case hl => omega
            case h63 => omega
            case hb => have := HB3.out.size; simp; omega
            case hL => intro b hb; have := HL.out b hb; have := HB3.out.size; have := hB2.size; simp; omega
            have hB4 : Below w2.heap.size w2 w4 := hfr4 _ _ (HB3.out.alloc HB3.out.size _) (Nat.le_refl _)
            have HE4 : Hid ((acc ++ [⟨2, 0, k⟩]) ++ edits ((xs.length : Int) + ys.length + 1) (i) (k + 1) (xs.drop (i)) (ys.drop (k + 1)) = edits ((xs.length : Int) + ys.length + 1) 0 0 xs ys) := Lib.hid (by
              rw [← HE.out]
              rw [HK.out, if_neg (fun h => HN.out h.1), if_neg (fun h => HN.out h.1), if_neg (by rw [← HZ0.out, ← HZ2.out]; exact HQ.out)]
              rw [List.append_assoc]; rfl)
            have HO4 := Lib.hid hO4
            clear hO4 hgr4 hfr4 hat4 hlt4
            go_wp2_with fail
            go_roundw
            case rel => exact ⟨i, k + 1, _, _, rfl, by go_num, by go_num, by have := HH.out; omega, by have := HH.out; omega, hB4, HO4.out, HE4.out, by simp; omega⟩
            case measure => simp [intOf] <;> have := HH.out <;> omega
      · have j2 : ¬ (k : Int) < (ys.length : Int) := by omega
        have HH := Lib.hid (And.intro hin hkm)
        have HK := Lib.hid (edits_kn (N := (xs.length : Int) + ys.length + 1) hin hkm)
        have HCC := Lib.hid (cst_kn' hin hkm)
        clear hin hkm
        go_wp2_with fail
        have jq1 : decide (i < xs.length) = true := by have := HH.out.1; simp; omega
        have jq2 : decide (k < ys.length) = false := by have := HH.out.2; simp; omega
        refine wp_region_below (by kernel_rfl) (by kernel_rfl) ?_
        repeat (
          first
          | go_big_quiet_skip
          | (go_big_quiet_want
             first
             | (go_big_quiet_op; go_big_quiet_on)
             | (apply Exists.intro
                refine And.intro (fun W hW => ?_) ?_
                · have gc := fun b o h => hW.cell (p := ⟨b, o, none⟩) h
                  unfold Oper.quietAt
                  go_simp
                  first
                  | fail
                  | exact rfl
                go_big_quiet_on
                simp only [Act.put, List.setIfInBounds_toArray, List.set_cons_zero, List.set_cons_succ])))
        refine wpQuiet_nil ?_
        intro w1 hb1
        have hB3 := below_trans HB.out hb1 HB.out.size
        have HB3 := Lib.hid hB3
        have a1 := cell_up hB3 HC0.out
        have a2 := cell_up hB3 HC1.out
        have G1 := (HT2.out.1.below hB3).2.2.2
        have G2 := (HT2.out.2.below hB3).2.2.2
        have b1 := (G1 i (by have := HH.out; omega)).1
        have b2 := ((G1 i (by have := HH.out; omega)).2.2.2.2.2.2 k (by have := HH.out; omega)).1
        obtain ⟨z0, hz0, Hz0, z00, z0N⟩ := HD.out.get (i2 := i) (k2 := k) (by omega) (by omega) (by omega) (by omega)
        rw [hz0] at b2
        have HZ0 := Lib.hid Hz0
        have b5 := (G1 (i + 1) (by have := HH.out; omega)).1
        have b6 := ((G1 (i + 1) (by have := HH.out; omega)).2.2.2.2.2.2 k (by have := HH.out; omega)).1
        obtain ⟨z2, hz2, Hz2, z20, z2N⟩ := HD.out.get (i2 := i + 1) (k2 := k) (by omega) (by have := HH.out; omega) (by omega) (by omega)
        rw [hz2] at b6
        have HZ2 := Lib.hid Hz2
        have k2 : (0 : Int) ≤ (i : Int) + 1 := by omega
        have l3 : (i : Int) < (xs.length : Int) + 1 := by omega
        have l4 : (k : Int) < (ys.length : Int) + 1 := by have := HH.out; omega
        have HO3 := Lib.hid (HO.out.below hb1)
        clear Hz0 hz0 Hz2 hz2 hb1 hB
        clear G1 G2
        have HQ : Hid (z0 = 1 + z2) := Lib.hid (by rw [HZ0.out, HZ2.out]; exact HCC.out)
        have t3 : (z0 == 1 + z2) = true := by simp [HQ.out]
        have l1 : acc.length ≤ 400 := by omega
        go_wp2_with (
          at_builtin
          refine wpList_push1 rEdit (by rfl) _ _ _ (by rfl) w2.heap.size 42 _ 24 L acc ⟨1, i, 0⟩ [.int .i64 1, .int .i64 i, .int .i64 0] v w1.heap.size Try.underlying37 infoEdit (by rfl) (by decide) (by rfl) ?hO (by rfl) ?hc ?hy ?hl ?h63 ?hb ?hL ?_
          rotate_right
          intro g cap w4 hO4 hgr4 hfr4 hat4 hlt4)
        case hO => exact HO3.out.below ((Below.refl _ _).alloc (Nat.le_refl _) _)
        case hc => exact new_cells w1 [_, _, _] _
        case hy => exact rEdit_mk _ _ _
        case hl => omega
        case h63 => omega
        case hb => have := HB3.out.size; simp; omega
        case hL => intro b hb; have := HL.out b hb; have := HB3.out.size; have := hB2.size; simp; omega
        have hB4 : Below w2.heap.size w2 w4 := hfr4 _ _ (HB3.out.alloc HB3.out.size _) (Nat.le_refl _)
        have HE4 : Hid ((acc ++ [⟨1, i, 0⟩]) ++ edits ((xs.length : Int) + ys.length + 1) (i + 1) (k) (xs.drop (i + 1)) (ys.drop (k)) = edits ((xs.length : Int) + ys.length + 1) 0 0 xs ys) := Lib.hid (by
          rw [← HE.out]
          rw [HK.out]
          rw [List.append_assoc]; rfl)
        have HO4 := Lib.hid hO4
        clear hO4 hgr4 hfr4 hat4 hlt4
        go_wp2_with fail
        go_roundw
        case rel => exact ⟨i + 1, k, _, _, rfl, by go_num, by go_num, by have := HH.out; omega, by have := HH.out; omega, hB4, HO4.out, HE4.out, by simp; omega⟩
        case measure => simp [intOf] <;> have := HH.out <;> omega
    · by_cases hkm : k < ys.length
      · have j1 : ¬ (i : Int) < (xs.length : Int) := by omega
        have j2 : (k : Int) < (ys.length : Int) := by omega
        have a1 := cell_up HB.out HC0.out
        have a2 := cell_up HB.out HC1.out
        have b1 := (HT2.out.1.below HB.out).2.2.2 i (by omega)
        have HH := Lib.hid (And.intro hin hkm)
        clear hin hkm
        go_wp2_with fail
        have jq1 : decide (i < xs.length) = false := by have := HH.out.1; simp; omega
        refine wp_region_below (by kernel_rfl) (by kernel_rfl) ?_
        repeat (
          first
          | go_big_quiet_skip
          | (go_big_quiet_want
             first
             | (go_big_quiet_op; go_big_quiet_on)
             | (apply Exists.intro
                refine And.intro (fun W hW => ?_) ?_
                · have gc := fun b o h => hW.cell (p := ⟨b, o, none⟩) h
                  unfold Oper.quietAt
                  go_simp
                  first
                  | fail
                  | exact rfl
                go_big_quiet_on
                simp only [Act.put, List.setIfInBounds_toArray, List.set_cons_zero, List.set_cons_succ])))
        refine wpQuiet_nil ?_
        intro w1 hb1
        have hB3 := below_trans HB.out hb1 HB.out.size
        have HB3 := Lib.hid hB3
        have a1 := cell_up hB3 HC0.out
        have a2 := cell_up hB3 HC1.out
        have b0 := (HT2.out.1.below hB3).2.2.2 i (by omega)
        have b1 := b0.1
        have b2 := (b0.2.2.2.2.2.2 k (by omega)).1
        have HO3 := Lib.hid (HO.out.below hb1)
        have l1 : acc.length ≤ 400 := by omega
        clear b0 hb1 hB
        go_wp2_with (
          at_builtin
          refine wpList_push1 rEdit (by rfl) _ _ _ (by rfl) w2.heap.size 42 _ 24 L acc ⟨2, 0, k⟩ [.int .i64 2, .int .i64 0, .int .i64 k] v w1.heap.size Try.underlying37 infoEdit (by rfl) (by decide) (by rfl) ?hO (by rfl) ?hc ?hy ?hl ?h63 ?hb ?hL ?_
          rotate_right
          intro g cap w4 hO4 hgr4 hfr4 hat4 hlt4)
        case hO => exact HO3.out.below ((Below.refl _ _).alloc (Nat.le_refl _) _)
        case hc => exact new_cells w1 [_, _, _] _
        case hy => exact rEdit_mk _ _ _
        case hl => omega
        case h63 => omega
        case hb => have := HB3.out.size; simp; omega
        case hL => intro b hb; have := HL.out b hb; have := HB3.out.size; have := hB2.size; simp; omega
        have hB4 : Below w2.heap.size w2 w4 := hfr4 _ _ (HB3.out.alloc HB3.out.size _) (Nat.le_refl _)
        have HE4 : Hid ((acc ++ [⟨2, 0, k⟩]) ++ edits ((xs.length : Int) + ys.length + 1) i (k + 1) (xs.drop i) (ys.drop (k + 1)) = edits ((xs.length : Int) + ys.length + 1) 0 0 xs ys) := Lib.hid (by
          rw [← HE.out, drop_nil HH.out.1, List.drop_eq_getElem_cons HH.out.2, edits, List.append_assoc]; rfl)
        have HO4 := Lib.hid hO4
        clear hO4 hgr4 hfr4 hat4 hlt4
        go_wp2_with fail
        go_roundw
        case rel => exact ⟨i, k + 1, _, _, rfl, rfl, by go_num, hi, by omega, hB4, HO4.out, HE4.out, by simp; omega⟩
        case measure => simp [intOf] <;> omega
      · have j1 : ¬ (i : Int) < (xs.length : Int) := by omega
        have j2 : ¬ (k : Int) < (ys.length : Int) := by omega
        have HF : Hid (acc = edits ((xs.length : Int) + ys.length + 1) 0 0 xs ys) := Lib.hid (by
          have := HE.out
          rw [drop_nil hin, drop_nil hkm, edits, List.append_nil] at this
          exact this)
        clear hin hkm
        go_wp2_with fail
        go_ret2
        exact ⟨_, rfl, by rw [← HF.out]; exact HO.out.weak hB2.size, below_trans hB2 HB.out hB2.size⟩
end Go.Proofs.Ytfejkaemledipaa
