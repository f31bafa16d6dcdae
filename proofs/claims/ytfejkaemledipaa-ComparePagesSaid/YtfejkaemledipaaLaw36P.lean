/- ComparePages: the walk of the law. -/
import Derived.Test.YtfejkaemledipaaSane36
import Derived.Test.YtfejkaemledipaaPages36R
import Derived.Test.YtfejkaemledipaaEq36e
namespace Go.Proofs.Ytfejkaemledipaa
open Go.RowKit

def marksOf (l : List Page) : List Mark := l.flatMap Page.marks
theorem marksOf_snoc (l : List Page) (p : Page) : marksOf (l ++ [p]) = marksOf l ++ p.marks := by simp [marksOf]
theorem marksOf_pagesOf (m : List Mark) : marksOf (pagesOf m) = m := by
  have key : ∀ (out : List Page) (k : Mark), marksOf (addMark out k) = marksOf out ++ [k] := by
    intro out k
    rcases List.eq_nil_or_concat out with rfl | ⟨f, p, rfl⟩
    · rfl
    · rw [List.concat_eq_append]
      by_cases h : p.number = k.page
      · rw [addMark_same h, marksOf_snoc, marksOf_snoc, List.append_assoc]
      · rw [addMark_new h, marksOf_snoc]
  have gen : ∀ (m : List Mark) (out : List Page), marksOf (m.foldl addMark out) = marksOf out ++ m := by
    intro m
    induction m with
    | nil => intro out; simp
    | cons k m ih => intro out; rw [List.foldl_cons, ih, key, List.append_assoc]; rfl
  simpa [pagesOf, marksOf] using gen m []
theorem marksOf_len_le (l : List Page) (i : Nat) : (marksOf (l.take i)).length ≤ (marksOf l).length := by
  have : marksOf l = marksOf (l.take i) ++ marksOf (l.drop i) := by
    conv => lhs; rw [← List.take_append_drop i l]
    simp only [marksOf, List.flatMap_append]
  rw [this, List.length_append]; omega
theorem page_lit {w : World} {L : List Nat} {p : Page} {A : Option Addr} {c : Nat} (h : Sl rMark w L (.slice A p.marks.length c) p.marks) : rPage.K w L p [.int .i64 p.number, .slice A p.marks.length c] := rPage_mk h

theorem pages2 (w : World) (t : TypeId) (p q : Page) (v1 v2 : Value) (h1 : rPage.K w [] p [.int .i64 p.number, v1]) (h2 : rPage.K w [] q [.int .i64 q.number, v2]) :
    Sl rPage (w.alloc (.cells #[.int .i64 p.number, v1, .int .i64 q.number, v2] t)) [] (.slice (some ⟨w.heap.size, 0, none⟩) 2 2) [p, q] :=
  Sl.lit rPage w t [p, q] [.int .i64 p.number, v1, .int .i64 q.number, v2] (by simp [maxLen]) (fun i x hi => by
    match i, hi with
    | 0, hi => cases hi; exact h1
    | 1, hi => cases hi; exact h2
    | n + 2, hi => simp at hi)

theorem box2 (w : World) (t : TypeId) (a0 a1 b0 b1 : Value) : let W := (w.alloc (.cells #[a0, a1] t)).alloc (.cells #[b0, b1] t)
    (W.cell? ⟨w.heap.size, 0, none⟩ = some a0 ∧ W.cell? ⟨w.heap.size, 1, none⟩ = some a1 ∧ W.cell? ⟨w.heap.size + 1, 0, none⟩ = some b0 ∧ W.cell? ⟨w.heap.size + 1, 1, none⟩ = some b1) ∧ Below w.heap.size w W := by
  intro W
  have hs : (w.alloc (.cells #[a0, a1] t)).heap.size = w.heap.size + 1 := by simp
  have hB : Below (w.alloc (.cells #[a0, a1] t)).heap.size (w.alloc (.cells #[a0, a1] t)) W := (Below.refl _ _).alloc (Nat.le_refl _) _
  have n1 := new_cells w [a0, a1] t
  have n2 := new_cells (w.alloc (.cells #[a0, a1] t)) [b0, b1] t
  rw [hs] at n2
  exact ⟨⟨cell_up hB (n1 0 _ rfl), cell_up hB (n1 1 _ rfl), n2 0 _ rfl, n2 1 _ rfl⟩, ((Below.refl _ _).alloc (Nat.le_refl _) _).alloc (by simp) _⟩
theorem held_up {wr W W' : World} {a b c d e f g h : Addr} {va vb vc vd ve vf vg vh : Value} (hb : Below W.heap.size W W')
    (H : Below wr.heap.size wr W ∧ W.cell? a = some va ∧ W.cell? b = some vb ∧ W.cell? c = some vc ∧ W.cell? d = some vd ∧ W.cell? e = some ve ∧ W.cell? f = some vf ∧ W.cell? g = some vg ∧ W.cell? h = some vh) :
    Below wr.heap.size wr W' ∧ W'.cell? a = some va ∧ W'.cell? b = some vb ∧ W'.cell? c = some vc ∧ W'.cell? d = some vd ∧ W'.cell? e = some ve ∧ W'.cell? f = some vf ∧ W'.cell? g = some vg ∧ W'.cell? h = some vh := by
  have up : ∀ {p : Addr} {v : Value}, W.cell? p = some v → W'.cell? p = some v := fun {p v} h => (hb.cell (p := p) (World.block_lt_of_cell? W _ h)).trans h
  obtain ⟨h0, h1, h2, h3, h4, h5, h6, h7, h8⟩ := H
  exact ⟨below_trans h0 hb h0.size, up h1, up h2, up h3, up h4, up h5, up h6, up h7, up h8⟩
theorem pagesOf_len (m : List Mark) : (pagesOf m).length ≤ m.length := by
  have key : ∀ (out : List Page) (k : Mark), (addMark out k).length ≤ out.length + 1 := by
    intro out k
    rcases List.eq_nil_or_concat out with rfl | ⟨f, p, rfl⟩
    · simp [addMark]
    · rw [List.concat_eq_append]
      by_cases h : p.number = k.page
      · rw [addMark_same h]; simp
      · rw [addMark_new h]; simp
  have gen : ∀ (m : List Mark) (out : List Page), (m.foldl addMark out).length ≤ out.length + m.length := by
    intro m
    induction m with
    | nil => intro out; simp
    | cons k m ih => intro out; have := ih (addMark out k); have := key out k; rw [List.foldl_cons, List.length_cons]; omega
  have := gen m []
  simpa [pagesOf] using this
set_option maxHeartbeats 8000000 in
theorem law_small (w : World) (A : Option Addr) (c : Nat) (m : List Mark) (p q : Page) (A1 A2 : Option Addr) (c1 c2 : Nat) (hm : Sl rMark w [] (.slice A m.length c) m) (hp : Sl rMark w [] (.slice A1 p.marks.length c1) p.marks) (hq : Sl rMark w [] (.slice A2 q.marks.length c2) q.marks)
    (hc : m.length ≤ c) (hN : ∀ x ∈ m, x.n.length ≤ 17592186044416) (hlm : m.length ≤ 200) (hlp : p.marks.length ≤ 100) (hlq : q.marks.length ≤ 100) :
    Calls Try.prog 3 #[.slice A m.length c, .agg #[.int .i64 p.number, .slice A1 p.marks.length c1], .agg #[.int .i64 q.number, .slice A2 q.marks.length c2]] w fun e w' => e = .returned (.bool true) ∧ Below w.heap.size w w' := by
  have HM := Lib.hid hm
  have HP := Lib.hid hp
  have HQ := Lib.hid hq
  have HN := Lib.hid hN
  have HB := Lib.hid (box2 w 24 (.int .i64 p.number) (.slice A1 p.marks.length c1) (.int .i64 q.number) (.slice A2 q.marks.length c2))
  clear hm hp hq hN
  have i1 : ¬ 200 < (m.length : Int) := by omega
  have i2 : ¬ 100 < (p.marks.length : Int) := by omega
  have i3 : ¬ 100 < (q.marks.length : Int) := by omega
  go_enter Try.func3, Try.ntmps3
  go_wp2_with fail
  refine (pages_spec _ [] _ _ m (HM.out.below HB.out.2) hc (fun b hb => by cases hb) (by omega) HN.out).mono ?_
  rintro e w1 ⟨A', c', rfl, hO, hB1⟩
  have b10 := cell_up hB1 HB.out.1.1
  have b11 := cell_up hB1 HB.out.1.2.1
  have b20 := cell_up hB1 HB.out.1.2.2.1
  have b21 := cell_up hB1 HB.out.1.2.2.2
  have hw1 := below_trans HB.out.2 hB1 HB.out.2.size
  have HW1 := Lib.hid hw1
  have HM1 := Lib.hid (HM.out.below hw1)
  have HP1 := Lib.hid (HP.out.below hw1)
  have HQ1 := Lib.hid (HQ.out.below hw1)
  have HML := Lib.hid (marksOf_pagesOf m)
  have hPl200 : (pagesOf m).length ≤ 1000 := by have := pagesOf_len m; omega
  generalize hpl : pagesOf m = P at *
  have HPP := Lib.hid hpl
  have HO := Lib.hid hO.sl
  have hPm := hO.sl.max
  clear hO hB1 hw1 HM HP HQ HB hpl i1 i2 i3
  go_wp2_with fail
  refine (as_spec _ [] _ 2 [p, q] (pages2 w1 _ p q _ _ (page_lit HP1.out) (page_lit HQ1.out)) (fun b hb => by cases hb) (by simp)).mono ?_
  rintro e w2 ⟨v, rfl, hS, hb2⟩
  obtain ⟨A3, c3, rfl⟩ := hS.val
  have hB2 : Below w1.heap.size w1 w2 := ((Below.refl _ _).alloc (Nat.le_refl _) _).trans (hb2.mono (by simp))
  have b10 := cell_up hB2 b10
  have b11 := cell_up hB2 b11
  have b20 := cell_up hB2 b20
  have b21 := cell_up hB2 b21
  have HW2 := Lib.hid (below_trans HW1.out hB2 HW1.out.size)
  have HM2 := Lib.hid (HM1.out.below hB2)
  have HP2 := Lib.hid (HP1.out.below hB2)
  have HQ2 := Lib.hid (HQ1.out.below hB2)
  have HO2 := Lib.hid (HO.out.below hB2)
  have HS := Lib.hid hS
  clear hb2 hB2 HW1 HM1 HP1 HQ1 HO hS
  simp only [List.length_cons, List.length_nil, Nat.reduceAdd] at *
  go_wp2_with fail
  go_loopw [9, 10] (fun v i wr => ∃ (k : Nat) (r : Value), r = v ∧ k ≤ P.length ∧ i = .int .i64 k ∧ Below w2.heap.size w2 wr ∧ OwnS rMark 45 wr w2.heap.size [] r (marksOf (P.take k))) (fun _ i _ => P.length - (intOf i).toNat)
  case atStart => exact ⟨0, _, rfl, Nat.zero_le _, rfl, Below.refl _ _, OwnS.nil _ _ _ _ _⟩
  case round =>
    obtain ⟨k, r, rfl, hk, rfl, hB, hA⟩ := hrel
    have HA := Lib.hid hA
    have HBr := Lib.hid hB
    clear hA
    by_cases hlt : k < P.length
    · have i1 : (k : Int) < (P.length : Int) := by omega
      have i2 : (0 : Int) ≤ (k : Int) := by omega
      have hlen : (marksOf (P.take (k + 1))).length ≤ 200 := by have := marksOf_len_le P (k + 1); rw [HML.out] at this; omega
      have hsn : marksOf (P.take (k + 1)) = marksOf (P.take k) ++ P[k].marks := by rw [take_snoc hlt, marksOf_snoc]
      have HSN := Lib.hid hsn
      rw [hsn, List.length_append] at hlen
      obtain ⟨xb, xo, X1, d1, rfl, xl, xm, x0, x1⟩ := page_cells HO2.out hlt
      have XM := Lib.hid xm
      have x1 := cell_up hB x1
      clear xm x0 hsn hB
      generalize P[k] = pk at *
      go_wp2_with (
        at_builtin
        refine wpList_pushAll rMark (by rfl) _ _ _ (by rfl) w2.heap.size 45 _ 112 [] (marksOf (P.take k)) pk.marks r _ Try.underlying22 infoMark (by rfl) (by decide) (by rfl) ?hO (by rfl) ?hy ?hl ?h63 ?hb ?hL ?_
        rotate_right
        intro A4 c4 w4 hO4 hgr4 hfr4 hat4)
      case hO => exact HA.out
      case hy => exact XM.out.into HBr.out HA.out.blk_ge
      case hl => omega
      case h63 => omega
      case hb => exact HBr.out.size
      case hL => intro b hb; cases hb
      have hB4 := hfr4 _ _ HBr.out (Nat.le_refl _)
      have HO4 := Lib.hid hO4
      clear hO4 hgr4 hfr4 hat4
      go_wp2_with fail
      go_roundw
      case rel => exact ⟨k + 1, _, rfl, by omega, by go_num, hB4, by rw [HSN.out]; exact HO4.out⟩
      case measure => simp [intOf] <;> omega
    · have i1 : ¬ (k : Int) < (P.length : Int) := by omega
      have HAll : Hid (OwnS rMark 45 wr w2.heap.size [] r m) := Lib.hid (by
        have := HA.out
        rw [List.take_of_length_le (by omega), HML.out] at this
        exact this)
      have hPl : P.length ≤ 1000 := hPl200
      obtain ⟨sb, so, S1, e1, rfl, sl, sm, s0, s1⟩ := page_cells HS.out (i := 0) (by simp)
      obtain ⟨sb', so', S2, e2, es, sl', tm, t0, t1⟩ := page_cells HS.out (i := 1) (by simp)
      cases es
      simp only [List.getElem_cons_zero, List.getElem_cons_succ, Nat.zero_mul, Nat.one_mul, Nat.add_zero] at s0 s1 t0 t1 sm tm
      have SM := Lib.hid sm
      have TM := Lib.hid tm
      have b10 := cell_up hB b10
      have b11 := cell_up hB b11
      have b20 := cell_up hB b20
      have b21 := cell_up hB b21
      have s0 := cell_up hB s0
      have s1 := cell_up hB s1
      have t0 := cell_up hB t0
      have t1 := cell_up hB t1
      obtain ⟨A7, c7, rfl⟩ := HAll.out.val
      obtain ⟨bq, hbq⟩ : ∃ b, b = decide (p = q) := ⟨_, rfl⟩
      have HBQ := Lib.hid hbq
      clear hlt HA hk sm tm hbq hB
      go_wp2_with fail
      have hrr : Below wr.heap.size wr wr.drew := below_drew (Below.refl _ _)
      go_region_held3 (fun W => Below wr.heap.size wr W ∧ W.cell? ⟨w.heap.size, 0, none⟩ = some (.int .i64 p.number) ∧ W.cell? ⟨w.heap.size, 1, none⟩ = some (.slice A1 p.marks.length c1) ∧ W.cell? ⟨w.heap.size + 1, 0, none⟩ = some (.int .i64 q.number) ∧ W.cell? ⟨w.heap.size + 1, 1, none⟩ = some (.slice A2 q.marks.length c2) ∧
          W.cell? ⟨sb, so, none⟩ = some (.int .i64 p.number) ∧ W.cell? ⟨sb, so + 1, none⟩ = some (.slice S1 p.marks.length e1) ∧ W.cell? ⟨sb, so + 2, none⟩ = some (.int .i64 q.number) ∧ W.cell? ⟨sb, so + 2 + 1, none⟩ = some (.slice S2 q.marks.length e2))
        (first | exact ⟨hrr, b10, b11, b20, b21, s0, s1, t0, t1⟩ | (exact held_up hb10 (by assumption)) | (exact held_up hb9 (by assumption)) | (exact held_up hb8 (by assumption)) | (exact held_up hb7 (by assumption)) | (exact held_up hb6 (by assumption)) | (exact held_up hb5 (by assumption)) | (exact held_up hb4 (by assumption)) | (exact held_up hb3 (by assumption)))
        (first
        | (go_at_call 6
           refine (as_spec _ [] _ _ P ?h (fun b hb => by cases hb) ?n).mono ?_
           case h => exact HO2.out.below (below_trans HBr.out (by go_split_ands; assumption) HBr.out.size)
           case n => omega
           rintro e w3 ⟨v3, rfl, hS3, hb3⟩
           obtain ⟨A5, c5, rfl⟩ := hS3.val
           have HS3 := Lib.hid hS3
           clear hS3)
        | (go_at_call 8
           refine (refPages_spec _ [] _ _ m ?h hc (fun b hb => by cases hb) ?n HN.out).mono ?_
           case h => exact HM2.out.below (below_trans HBr.out (by go_split_ands; assumption) HBr.out.size)
           case n => omega
           rintro e w4 ⟨A6, c6, rfl, hO6, hb4⟩
           have HS4 := Lib.hid (HS3.out.below hb4)
           have HO6 := Lib.hid hO6.sl
           clear hO6)
        | (go_at_call 7
           refine (samePages_spec _ [] _ _ _ _ P (pagesOf m) HS4.out HO6.out).mono ?_
           rintro e w5 ⟨he, hb5⟩
           rw [decide_eq_true HPP.out.symm] at he
           subst he)
        | (go_at_call 9
           refine (sameMarks_spec _ [] _ _ _ _ m m ?h1 ?h2).mono ?_
           case h1 => exact HAll.out.sl.below (by go_split_ands; assumption)
           case h2 => exact HM2.out.below (below_trans HBr.out (by go_split_ands; assumption) HBr.out.size)
           rintro e w6 ⟨he, hb6⟩
           rw [decide_eq_true rfl] at he
           subst he)
        | (go_at_call 10
           (with_reducible refine (same_spec _ [] p q _ _ _ _ ?h1 ?h2).mono ?_)
           case h1 => exact HP2.out.below (below_trans HBr.out (by go_split_ands; assumption) HBr.out.size)
           case h2 => exact HQ2.out.below (below_trans HBr.out (by go_split_ands; assumption) HBr.out.size)
           rintro e w7 ⟨he, hb7⟩
           rw [← HBQ.out] at he
           subst he)
        | (go_at_call 11
           refine (refSame_spec _ [] p q _ _ _ _ ?h1 ?h2).mono ?_
           case h1 => exact SM.out.below (below_trans HBr.out (by go_split_ands; assumption) HBr.out.size)
           case h2 => exact TM.out.below (below_trans HBr.out (by go_split_ands; assumption) HBr.out.size)
           rintro e w8 ⟨he, hb8⟩
           rw [← HBQ.out] at he
           subst he)
        | (go_at_call 10
           (with_reducible refine (same_spec _ [] p p _ _ _ _ ?h1 ?h2).mono ?_)
           case h1 => exact HP2.out.below (below_trans HBr.out (by go_split_ands; assumption) HBr.out.size)
           case h2 => exact HP2.out.below (below_trans HBr.out (by go_split_ands; assumption) HBr.out.size)
           rintro e w9 ⟨he, hb9⟩
           rw [decide_eq_true rfl] at he
           subst he)
        | (go_at_call 4
           refine (sane_spec _).mono ?_
           rintro e w10 ⟨rfl, hb10⟩))
      have hend : Below wr.heap.size wr w10 := by go_split_ands; assumption
      have HEnd := Lib.hid (below_trans HW2.out (below_trans HBr.out hend HBr.out.size) HW2.out.size)
      clear hend
      go_wp2_with fail
      go_ret
      exact ⟨rfl, HEnd.out⟩
set_option linter.unusedVariables false in
set_option maxHeartbeats 4000000 in
theorem law_big1 (w : World) (A : Option Addr) (c n : Nat) (p q : Page) (A1 A2 : Option Addr) (c1 c2 : Nat) (h1 : 200 < n) (hp : p.marks.length ≤ 9223372036854775807) (hq : q.marks.length ≤ 9223372036854775807) (hn : n ≤ 9223372036854775807) :
    Calls Try.prog 3 #[.slice A n c, .agg #[.int .i64 p.number, .slice A1 p.marks.length c1], .agg #[.int .i64 q.number, .slice A2 q.marks.length c2]] w fun e w' => e = .returned (.bool true) ∧ Below w.heap.size w w' := by
  have HB := Lib.hid (box2 w 24 (.int .i64 p.number) (.slice A1 p.marks.length c1) (.int .i64 q.number) (.slice A2 q.marks.length c2))
  have i1 : (200 : Int) < (n : Int) := (by omega)
  go_enter Try.func3, Try.ntmps3
  go_wp2_with fail
  refine (sane_spec _).mono ?_
  rintro e w1 ⟨rfl, hb1⟩
  have HE := Lib.hid (below_trans HB.out.2 hb1 HB.out.2.size)
  clear hb1
  go_wp2_with fail
  go_ret
  exact ⟨rfl, HE.out⟩
set_option linter.unusedVariables false in
set_option maxHeartbeats 4000000 in
theorem law_big2 (w : World) (A : Option Addr) (c n : Nat) (p q : Page) (A1 A2 : Option Addr) (c1 c2 : Nat) (h1 : ¬ 200 < n) (h2 : 100 < p.marks.length) (hp : p.marks.length ≤ 9223372036854775807) (hq : q.marks.length ≤ 9223372036854775807) (hn : n ≤ 9223372036854775807) :
    Calls Try.prog 3 #[.slice A n c, .agg #[.int .i64 p.number, .slice A1 p.marks.length c1], .agg #[.int .i64 q.number, .slice A2 q.marks.length c2]] w fun e w' => e = .returned (.bool true) ∧ Below w.heap.size w w' := by
  have HB := Lib.hid (box2 w 24 (.int .i64 p.number) (.slice A1 p.marks.length c1) (.int .i64 q.number) (.slice A2 q.marks.length c2))
  have i1 : ¬ (200 : Int) < (n : Int) := (by omega); have i2 : (100 : Int) < (p.marks.length : Int) := (by omega)
  go_enter Try.func3, Try.ntmps3
  go_wp2_with fail
  refine (sane_spec _).mono ?_
  rintro e w1 ⟨rfl, hb1⟩
  have HE := Lib.hid (below_trans HB.out.2 hb1 HB.out.2.size)
  clear hb1
  go_wp2_with fail
  go_ret
  exact ⟨rfl, HE.out⟩
set_option linter.unusedVariables false in
set_option maxHeartbeats 4000000 in
theorem law_big3 (w : World) (A : Option Addr) (c n : Nat) (p q : Page) (A1 A2 : Option Addr) (c1 c2 : Nat) (h1 : ¬ 200 < n) (h2 : ¬ 100 < p.marks.length) (h3 : 100 < q.marks.length) (hp : p.marks.length ≤ 9223372036854775807) (hq : q.marks.length ≤ 9223372036854775807) (hn : n ≤ 9223372036854775807) :
    Calls Try.prog 3 #[.slice A n c, .agg #[.int .i64 p.number, .slice A1 p.marks.length c1], .agg #[.int .i64 q.number, .slice A2 q.marks.length c2]] w fun e w' => e = .returned (.bool true) ∧ Below w.heap.size w w' := by
  have HB := Lib.hid (box2 w 24 (.int .i64 p.number) (.slice A1 p.marks.length c1) (.int .i64 q.number) (.slice A2 q.marks.length c2))
  have i1 : ¬ (200 : Int) < (n : Int) := (by omega); have i2 : ¬ (100 : Int) < (p.marks.length : Int) := (by omega); have i3 : (100 : Int) < (q.marks.length : Int) := (by omega)
  go_enter Try.func3, Try.ntmps3
  go_wp2_with fail
  refine (sane_spec _).mono ?_
  rintro e w1 ⟨rfl, hb1⟩
  have HE := Lib.hid (below_trans HB.out.2 hb1 HB.out.2.size)
  clear hb1
  go_wp2_with fail
  go_ret
  exact ⟨rfl, HE.out⟩
theorem law_spec (w : World) (A : Option Addr) (c : Nat) (m : List Mark) (p q : Page) (A1 A2 : Option Addr) (c1 c2 : Nat) (hm : Sl rMark w [] (.slice A m.length c) m) (hp : Sl rMark w [] (.slice A1 p.marks.length c1) p.marks) (hq : Sl rMark w [] (.slice A2 q.marks.length c2) q.marks)
    (hN : ∀ x ∈ m, x.n.length ≤ 17592186044416) :
    Calls Try.prog 3 #[.slice A m.length c, .agg #[.int .i64 p.number, .slice A1 p.marks.length c1], .agg #[.int .i64 q.number, .slice A2 q.marks.length c2]] w fun e w' => e = .returned (.bool true) ∧ Below w.heap.size w w' := by
  have hc : m.length ≤ c := by obtain ⟨_, _, e, h, _⟩ := hm; cases e; exact h
  by_cases h1 : 200 < m.length
  · exact law_big1 w A c _ p q A1 A2 c1 c2 h1 hp.max hq.max hm.max
  by_cases h2 : 100 < p.marks.length
  · exact law_big2 w A c _ p q A1 A2 c1 c2 h1 h2 hp.max hq.max hm.max
  by_cases h3 : 100 < q.marks.length
  · exact law_big3 w A c _ p q A1 A2 c1 c2 h1 h2 h3 hp.max hq.max hm.max
  · exact law_small w A c m p q A1 A2 c1 c2 hm hp hq hc hN (by omega) (by omega) (by omega)
end Go.Proofs.Ytfejkaemledipaa
