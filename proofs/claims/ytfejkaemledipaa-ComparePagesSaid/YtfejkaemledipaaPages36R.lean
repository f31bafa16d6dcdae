/- Marks cut into pages: the document's way. -/
import Derived.Test.YtfejkaemledipaaPages36
namespace Go.Proofs.Ytfejkaemledipaa
open Go.RowKit

theorem PagesInv.cellsI {e : TypeId} {w : World} {base : Nat} {L : List Nat} {g n c m : Nat} {mv : Value} {rows : List (Int × Value)} {front : List Page} {num : Int} {ms : List Mark} (h : PagesInv e w base L (.slice (some ⟨g, 0, none⟩) n c) rows front num mv ms) (hm : rows.length = m) :
    w.cell? ⟨g, m * 2, none⟩ = some (.int .i64 num) ∧ w.cell? ⟨g, m * 2 + 1, none⟩ = some mv ∧ w.frozen? ⟨g, m * 2 + 1, none⟩ = false ∧ OwnS rMark 45 w base (g :: L) mv ms := by
  subst hm; exact h.cells
theorem PagesInv.markI {e : TypeId} {w w1 : World} {base : Nat} {L : List Nat} {g n c m : Nat} {mv mv' : Value} {rows : List (Int × Value)} {front : List Page} {num : Int} {ms ms' : List Mark} (hm : rows.length = m)
    (h : PagesInv e w base L (.slice (some ⟨g, 0, none⟩) n c) rows front num mv ms) (hO : OwnS rMark 45 w1 base (g :: L) mv' ms') (hg : w.grownBy w1 mv.ownBlock) (hat : mv'.ownBlock = mv.ownBlock ∨ mv'.ownBlock = some w.heap.size) :
    PagesInv e (w1.setCell ⟨g, m * 2 + 1, none⟩ mv') base L (.slice (some ⟨g, 0, none⟩) n c) rows front num mv' ms' := by
  subst hm; exact h.mark hO hg hat
theorem below_da (w : World) (b : Obj) (n : Nat) : Below w.heap.size w ((w.drewN n).alloc b) :=
  (below_drewN (Below.refl _ _) _).alloc (by simp) _
theorem new_cells1 (w : World) (n : Nat) (c : List Value) (t : TypeId) (j : Nat) (u : Value) (h : c[j]? = some u) : ((w.drewN n).alloc (.cells c.toArray t)).cell? ⟨w.heap.size, j, none⟩ = some u := by
  have := new_cells (w.drewN n) c t j u h
  simpa using this

set_option maxHeartbeats 6400000 in
theorem refPages_spec (w : World) (L : List Nat) (A : Option Addr) (c : Nat) (xs : List Mark) (h : Sl rMark w L (.slice A xs.length c) xs) (hc : xs.length ≤ c) (hL : ∀ b ∈ L, b < w.heap.size) (hn : xs.length ≤ 1000) (hN : ∀ m ∈ xs, m.n.length ≤ 17592186044416) :
    Calls Try.prog 8 #[.slice A xs.length c] w fun e w' => ∃ A' c', e = .returned (.slice A' (pagesOf xs).length c') ∧ OwnS rPage 35 w' w.heap.size L (.slice A' (pagesOf xs).length c') (pagesOf xs) ∧ Below w.heap.size w w' := by
  have HL := Lib.hid hL
  have HN := Lib.hid hN
  have H := Lib.hid h
  clear hN hL h
  go_enter Try.func8, Try.ntmps8
  go_wp2_with fail
  go_loopw [3, 4] (fun v i wr => ∃ (k : Nat) (r : Value), r = v ∧ k ≤ xs.length ∧ i = .int .i64 k ∧ Below w.heap.size w wr ∧
    ((k = 0 ∧ r = .slice none 0 0) ∨ (0 < k ∧ ∃ rows front num mv ms, PagesInv 35 wr w.heap.size L r rows front num mv ms ∧ pagesOf (xs.take k) = front ++ [⟨num, ms⟩] ∧ (∀ h : k - 1 < xs.length, num = xs[k - 1].page) ∧ rows.length < k ∧ ms.length ≤ k))) (fun _ i _ => xs.length - (intOf i).toNat)
  case atStart => exact ⟨0, _, rfl, Nat.zero_le _, rfl, Below.refl _ _, .inl ⟨rfl, rfl⟩⟩
  case round =>
    obtain ⟨k, v, rfl, hk, rfl, hB, hP⟩ := hrel
    by_cases hlt : k < xs.length
    · obtain ⟨b1, o1, A8, c8, rfl, l1, n1, e0, e1, e2, e3, e4, e5, e6, e7, e8⟩ := mark_cells (H.out.below hB) hlt
      have hxt := take_snoc hlt
      have HC := Lib.hid (fun (w2 : World) (rows : List (Int × Value)) (front : List Page) (num : Int) (mv : Value) (ms : List Mark) (g n' cg : Nat) (hP : PagesInv 35 w2 w.heap.size L (.slice (some ⟨g, 0, none⟩) n' cg) rows front num mv ms) (hg : w.heap.size ≤ g) (hB : Below w.heap.size w w2) => cut_one H.out hP hg hB hlt)
      have HNx := Lib.hid (HN.out _ (List.getElem_mem hlt))
      generalize hx : xs[k] = x at *
      have HX := Lib.hid hx
      have i1 : (k : Int) < (xs.length : Int) := by omega
      have i3 : (0 : Int) ≤ (k : Int) := by omega
      clear n1 hx e1 e2 e3 e4 e5 e6 e7 e8
      rcases hP with ⟨hk0, rfl⟩ | ⟨hk0, rows, front, num, mv, ms, hP, hpg, hnum, hr, hms⟩
      · have HPG : Hid (pagesOf (xs.take (k + 1)) = [] ++ [⟨x.page, [] ++ [x]⟩]) := Lib.hid (by rw [hxt, hk0]; rfl)
        obtain ⟨R, hR⟩ : ∃ R : List (Int × Value), R = [] := ⟨_, rfl⟩
        have HRl : Hid (R.length = 0) := Lib.hid (by rw [hR]; rfl)
        have HI : Hid (R.length = 0) := HRl
        have hRb : R.length < k + 1 := by have := HRl.out; omega
        have HR : Hid (OwnS rRaw 35 wr w.heap.size L (.slice none 0 0) R) := Lib.hid (by rw [hR]; exact OwnS.nil _ _ _ _ _)
        have HRe := Lib.hid hR
        clear hR hk0 hxt
        go_wp2_with fail
        go_quiet (fail)
        go_wp2_with (
          at_builtin
          refine wpList_push1 rRaw (by rfl) _ _ _ (by rfl) w.heap.size 35 _ 32 L R (x.page, .slice none 0 0) [.int .i64 x.page, .slice none 0 0] (.slice none 0 0) wr.heap.size Try.underlying28 infoRPage (by rfl) (by decide) (by rfl) ?hO (by rfl) ?hc ?hy ?hl ?h63 ?hb ?hL ?_
          rotate_right
          intro g cap w2 hO2 hgr2 hfr2 hat2 hlt2)
        case hO => exact HR.out.below (below_da _ _ _)
        case hc => exact new_cells1 wr _ [_, _] _
        case hy => exact rRaw_mk _ _ _ rfl
        case hl => have := HRl.out; omega
        case h63 => have := HRl.out; omega
        case hb => have := hB.size; simp; omega
        case hL => intro b hb; have := HL.out b hb; have := hB.size; simp; omega
        have hBw2 : Below w.heap.size w w2 := hfr2 _ _ (below_trans hB (below_da _ _ _) hB.size) (Nat.le_refl _)
        obtain ⟨mv, ms, hP2, hm0⟩ := first_page HRe.out hO2
        have HM0 := Lib.hid hm0
        have HP2 := Lib.hid hP2
        have hms : ms.length ≤ k := by rw [hm0]; simp
        have hg1 : w.heap.size ≤ g := by obtain ⟨_, _, e, h, _⟩ := hP2.shape; cases e; exact h
        have HS1 := Lib.hid (HC.out _ _ _ _ _ _ _ _ _ hP2 hg1 hBw2)
        clear hP2 hm0 hO2 hgr2 hat2 hfr2
        have s1 : (0 : Int) ≤ (k : Int) := by omega
        have s2 : (k : Int) ≤ (k : Int) + 1 := by omega
        have s3 : (k : Int) + 1 ≤ (c : Int) := by omega
        have s4 : ¬ c = k := by omega
        have s5 : IntKind.i64.wrap ((k : Int) + 1) = (k : Int) + 1 := IntWalk.i64_in _ (by omega)
        have s6 : (0 : Int) ≤ (k : Int) + 1 := by omega
        have s7 : max ((k : Int) + 1) 0 = (k : Int) + 1 := by omega
        have s8 : ((k : Int) + 1).toNat = k + 1 := by omega
        obtain ⟨r0, r1, r2, hM2⟩ := HP2.out.cellsI HI.out
        have HM2 := Lib.hid hM2
        have hgb := own_apart HP2.out
        have hgs2 : g < w2.heap.size := by obtain ⟨_, _, e, _, h⟩ := HP2.out.shape; cases e; exact h
        have HLm := Lib.hid (lists_lt HP2.out hgs2 (fun b hb => by have := HL.out b hb; have := hBw2.size; omega))
        clear hM2
        go_region_law (first
          | (refine step_pushAll rMark (by rfl) _ _ _ (by rfl) w.heap.size 45 _ 112 (g :: L) ms [x] mv _ Try.underlying22 infoMark (by rfl) (by decide) (by rfl) ?hO (by rfl) ?hy ?hl ?h63 ?hb ?hL ?_
             case hO => exact HM2.out.below hB3
             case hy => exact hO3.sl
             case hl => simp; omega
             case h63 => simp; omega
             case hb => have := hB3.size; have := hBw2.size; omega
             case hL => intro b hb; have := HLm.out b (List.mem_append_right _ hb); have := hB3.size; omega
             intro A2 c2 w4 hO2 hgr2 hfr2 hat2
             have q4 := (cell_of_heap (hgr2.block g (by have := hB3.size; omega) hgb) ((0) * 2 + 1)).trans q3
             have z4 := (frozen_of_heap (hgr2.block g (by have := hB3.size; omega) hgb) ((0) * 2 + 1)).trans z3)
          | (go_simp; go_at_call 14; refine (refOwn_spec _ (blk mv ++ (g :: L)) _ _ [x] HS1.out HLm.out ?hn ?hN).mono ?_
             case hn => simp
             case hN => intro m hm; simp at hm; subst hm; exact HNx.out
             rintro e w3 ⟨A3, c3, rfl, hO3, hb3⟩
             have hB3 : Below w2.heap.size w2 w3 := (below_drew (Below.refl w2.heap.size w2)).trans hb3
             have q3 := cell_up hB3 r1
             have z3 := frozen_up hB3 hgs2 r2))
        all_goals
          have HPF := Lib.hid (PagesInv.markI HI.out (HP2.out.below hB3) hO2 hgr2 hat2)
          have hBf := (hfr2 _ _ (below_trans hBw2 hB3 hBw2.size) (Nat.le_refl _)).setCell (p := ⟨g, (0) * 2 + 1, none⟩) hg1 (.slice A2 (ms.length + [x].length) c2)
          clear hO2 hgr2 hfr2 hat2 q4 z4 hO3 hb3 hB3 q3 z3 r0 r1 r2 HM2
          go_wp2_with fail
          go_roundw
          case rel => exact ⟨k + 1, _, rfl, by omega, by go_num, hBf, .inr ⟨by omega, R, _, _, _, ms ++ [x], HPF.out, by rw [HPG.out, HM0.out], fun _ => by rw [← HX.out]; rfl, by omega, by simp; omega⟩⟩
          case measure => simp [intOf]; omega
      · obtain ⟨g, cg, rfl, hg1, hg2⟩ := hP.shape
        have HP := Lib.hid hP
        obtain ⟨d0, _⟩ := hP.cells
        have HPG : Hid (pagesOf (xs.take (k + 1)) = addMark (front ++ [⟨num, ms⟩]) x) := Lib.hid (by rw [hxt, pagesOf_snoc, hpg])
        clear hP hpg hnum hxt
        have i4 : decide ((rows.length : Int) < 0) = false := by rw [decide_eq_false_iff_not]; omega
        have i6 : (rows.length : Int) < (rows.length : Int) + 1 := by omega
        have i5 : (0 : Int) ≤ (rows.length : Int) := by omega
        by_cases hpe : num = x.page
        · have g0 : (num != x.page) = false := by simp [hpe]
          have HPE := Lib.hid hpe
          clear hpe
          go_wp2_with fail
          go_quiet (fail)
          go_wp2_with fail
          refine wp_abs ?_
          intro w2 hw2
          have hB2 : Below wr.heap.size wr w2 := by rw [hw2]; exact below_drewN (Below.refl _ _) _
          clear hw2
          have hBw2 := below_trans hB hB2 hB.size
          have HP2 := Lib.hid (HP.out.below hB2)
          have HS1 := Lib.hid (HC.out _ _ _ _ _ _ _ _ _ HP2.out hg1 hBw2)
          have s1 : (0 : Int) ≤ (k : Int) := by omega
          have s2 : (k : Int) ≤ (k : Int) + 1 := by omega
          have s3 : (k : Int) + 1 ≤ (c : Int) := by omega
          have s4 : ¬ c = k := by omega
          have s5 : IntKind.i64.wrap ((k : Int) + 1) = (k : Int) + 1 := IntWalk.i64_in _ (by omega)
          have s6 : (0 : Int) ≤ (k : Int) + 1 := by omega
          have s7 : max ((k : Int) + 1) 0 = (k : Int) + 1 := by omega
          have s8 : ((k : Int) + 1).toNat = k + 1 := by omega
          have HI : Hid (rows.length = rows.length) := Lib.hid rfl
          obtain ⟨r0, r1, r2, hM2⟩ := HP2.out.cellsI HI.out
          have HM2 := Lib.hid hM2
          have hgb := own_apart HP2.out
          have hgs2 : g < w2.heap.size := by obtain ⟨_, _, e, _, h⟩ := HP2.out.shape; cases e; exact h
          have HLm := Lib.hid (lists_lt HP2.out hgs2 (fun b hb => by have := HL.out b hb; have := hBw2.size; omega))
          clear hM2
          go_region_law (first
            | (refine step_pushAll rMark (by rfl) _ _ _ (by rfl) w.heap.size 45 _ 112 (g :: L) ms [x] mv _ Try.underlying22 infoMark (by rfl) (by decide) (by rfl) ?hO (by rfl) ?hy ?hl ?h63 ?hb ?hL ?_
               case hO => exact HM2.out.below hB3
               case hy => exact hO3.sl
               case hl => simp; omega
               case h63 => simp; omega
               case hb => have := hB3.size; have := hBw2.size; omega
               case hL => intro b hb; have := HLm.out b (List.mem_append_right _ hb); have := hB3.size; omega
               intro A2 c2 w4 hO2 hgr2 hfr2 hat2
               have q4 := (cell_of_heap (hgr2.block g (by have := hB3.size; omega) hgb) ((rows.length) * 2 + 1)).trans q3
               have z4 := (frozen_of_heap (hgr2.block g (by have := hB3.size; omega) hgb) ((rows.length) * 2 + 1)).trans z3)
            | (go_simp; go_at_call 14; refine (refOwn_spec _ (blk mv ++ (g :: L)) _ _ [x] HS1.out HLm.out ?hn ?hN).mono ?_
               case hn => simp
               case hN => intro m hm; simp at hm; subst hm; exact HNx.out
               rintro e w3 ⟨A3, c3, rfl, hO3, hb3⟩
               have hB3 : Below w2.heap.size w2 w3 := (below_drew (Below.refl w2.heap.size w2)).trans hb3
               have q3 := cell_up hB3 r1
               have z3 := frozen_up hB3 hgs2 r2))
          all_goals
            have HPF := Lib.hid (PagesInv.markI HI.out (HP2.out.below hB3) hO2 hgr2 hat2)
            have hBf := (hfr2 _ _ (below_trans hBw2 hB3 hBw2.size) (Nat.le_refl _)).setCell (p := ⟨g, (rows.length) * 2 + 1, none⟩) hg1 (.slice A2 (ms.length + [x].length) c2)
            clear hO2 hgr2 hfr2 hat2 q4 z4 hO3 hb3 hB3 q3 z3 r0 r1 r2 HM2
            go_wp2_with fail
            go_roundw
            case rel => exact ⟨k + 1, _, rfl, by omega, by go_num, hBf, .inr ⟨by omega, rows, _, _, _, ms ++ [x], HPF.out, by rw [HPG.out, addMark_same HPE.out], fun _ => by rw [HPE.out, ← HX.out]; rfl, by omega, by simp; omega⟩⟩
            case measure => simp [intOf]; omega
        · have g0 : (num != x.page) = true := by simp [hpe]
          have HPE := Lib.hid hpe
          obtain ⟨R, hR⟩ : ∃ R, R = rows ++ [(num, mv)] := ⟨_, rfl⟩
          have HRl : Hid (R.length = rows.length + 1) := Lib.hid (by rw [hR]; simp)
          have HI : Hid (R.length = rows.length + 1) := HRl
          have i7 : (0 : Int) ≤ (rows.length : Int) + 1 := by omega
          have i8 : rows.length < R.length := by have := HRl.out; omega
          have hRb : R.length < k + 1 := by have := HRl.out; omega
          have HR : Hid (OwnS rRaw 35 wr w.heap.size L (.slice (some ⟨g, 0, none⟩) (rows.length + 1) cg) R) := Lib.hid (by rw [hR]; exact HP.out.1)
          have HRe := Lib.hid hR
          clear hR hpe
          go_wp2_with fail
          go_quiet (fail)
          go_wp2_with (
            at_builtin
            refine wpList_push1 rRaw (by rfl) _ _ _ (by rfl) w.heap.size 35 _ 32 L R (x.page, .slice none 0 0) [.int .i64 x.page, .slice none 0 0] (.slice (some ⟨g, 0, none⟩) (rows.length + 1) cg) wr.heap.size Try.underlying28 infoRPage (by rfl) (by decide) (by rfl) ?hO (by rfl) ?hc ?hy ?hl ?h63 ?hb ?hL ?_
            rotate_right
            intro g cap w2 hO2 hgr2 hfr2 hat2 hlt2)
          case hO => exact HR.out.below (below_da _ _ _)
          case hc => exact new_cells1 wr _ [_, _] _
          case hy => exact rRaw_mk _ _ _ rfl
          case hl => have := HRl.out; omega
          case h63 => have := HRl.out; omega
          case hb => have := hB.size; simp; omega
          case hL => intro b hb; have := HL.out b hb; have := hB.size; simp; omega
          have hBw2 : Below w.heap.size w w2 := hfr2 _ _ (below_trans hB (below_da _ _ _) hB.size) (Nat.le_refl _)
          obtain ⟨mv, ms, hP2, hm0⟩ := next_page HP.out HRe.out (below_da _ _ _) hO2 hgr2 hat2
          have HM0 := Lib.hid hm0
          have HP2 := Lib.hid hP2
          have hms : ms.length ≤ k := by rw [hm0]; simp
          have hg1 : w.heap.size ≤ g := by obtain ⟨_, _, e, h, _⟩ := hP2.shape; cases e; exact h
          have HS1 := Lib.hid (HC.out _ _ _ _ _ _ _ _ _ hP2 hg1 hBw2)
          clear hP2 hm0 hO2 hgr2 hat2 hfr2
          have s1 : (0 : Int) ≤ (k : Int) := by omega
          have s2 : (k : Int) ≤ (k : Int) + 1 := by omega
          have s3 : (k : Int) + 1 ≤ (c : Int) := by omega
          have s4 : ¬ c = k := by omega
          have s5 : IntKind.i64.wrap ((k : Int) + 1) = (k : Int) + 1 := IntWalk.i64_in _ (by omega)
          have s6 : (0 : Int) ≤ (k : Int) + 1 := by omega
          have s7 : max ((k : Int) + 1) 0 = (k : Int) + 1 := by omega
          have s8 : ((k : Int) + 1).toNat = k + 1 := by omega
          obtain ⟨r0, r1, r2, hM2⟩ := HP2.out.cellsI HI.out
          have HM2 := Lib.hid hM2
          have hgb := own_apart HP2.out
          have hgs2 : g < w2.heap.size := by obtain ⟨_, _, e, _, h⟩ := HP2.out.shape; cases e; exact h
          have HLm := Lib.hid (lists_lt HP2.out hgs2 (fun b hb => by have := HL.out b hb; have := hBw2.size; omega))
          clear hM2
          go_region_law (first
            | (refine step_pushAll rMark (by rfl) _ _ _ (by rfl) w.heap.size 45 _ 112 (g :: L) ms [x] mv _ Try.underlying22 infoMark (by rfl) (by decide) (by rfl) ?hO (by rfl) ?hy ?hl ?h63 ?hb ?hL ?_
               case hO => exact HM2.out.below hB3
               case hy => exact hO3.sl
               case hl => simp; omega
               case h63 => simp; omega
               case hb => have := hB3.size; have := hBw2.size; omega
               case hL => intro b hb; have := HLm.out b (List.mem_append_right _ hb); have := hB3.size; omega
               intro A2 c2 w4 hO2 hgr2 hfr2 hat2
               have q4 := (cell_of_heap (hgr2.block g (by have := hB3.size; omega) hgb) ((rows.length + 1) * 2 + 1)).trans q3
               have z4 := (frozen_of_heap (hgr2.block g (by have := hB3.size; omega) hgb) ((rows.length + 1) * 2 + 1)).trans z3)
            | (go_simp; go_at_call 14; refine (refOwn_spec _ (blk mv ++ (g :: L)) _ _ [x] HS1.out HLm.out ?hn ?hN).mono ?_
               case hn => simp
               case hN => intro m hm; simp at hm; subst hm; exact HNx.out
               rintro e w3 ⟨A3, c3, rfl, hO3, hb3⟩
               have hB3 : Below w2.heap.size w2 w3 := (below_drew (Below.refl w2.heap.size w2)).trans hb3
               have q3 := cell_up hB3 r1
               have z3 := frozen_up hB3 hgs2 r2))
          all_goals
            have HPF := Lib.hid (PagesInv.markI HI.out (HP2.out.below hB3) hO2 hgr2 hat2)
            have hBf := (hfr2 _ _ (below_trans hBw2 hB3 hBw2.size) (Nat.le_refl _)).setCell (p := ⟨g, (rows.length + 1) * 2 + 1, none⟩) hg1 (.slice A2 (ms.length + [x].length) c2)
            clear hO2 hgr2 hfr2 hat2 q4 z4 hO3 hb3 hB3 q3 z3 r0 r1 r2 HM2
            go_wp2_with fail
            go_roundw
            case rel => exact ⟨k + 1, _, rfl, by omega, by go_num, hBf, .inr ⟨by omega, R, _, _, _, ms ++ [x], HPF.out, by rw [HPG.out, addMark_new HPE.out, HM0.out]; rfl, fun _ => by rw [← HX.out]; rfl, by omega, by simp; omega⟩⟩
            case measure => simp [intOf]; omega
    · have hk' : k = xs.length := by omega
      have HE := Lib.hid (pages_end hk' hP)
      clear hP hk'
      have i1 : ¬ ((k : Int) < (xs.length : Int)) := by omega
      go_wp2
      go_ret
      obtain ⟨A', c', he, hO⟩ := HE.out
      exact ⟨A', c', by rw [← he]; rfl, hO, hB⟩
end Go.Proofs.Ytfejkaemledipaa
