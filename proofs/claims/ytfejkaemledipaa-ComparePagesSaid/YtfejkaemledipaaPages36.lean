/- Marks cut into pages: the program's way. -/
import Derived.Test.YtfejkaemledipaaPagesInv
import Derived.Test.YtfejkaemledipaaRep2
import Derived.Deep.RegionLaw
namespace Go.Proofs.Ytfejkaemledipaa
open Go.RowKit

theorem infoPage : (Try.prog.info? 24).map (fun i => (i.zero, i.size, i.bytes)) = some (some (.agg #[.int .i64 0, .slice none 0 0]), 2, 32) := by kernel_rfl

theorem lists_lt {w2 : World} {base g n c : Nat} {e : TypeId} {L : List Nat} {rows : List (Int × Value)} {front : List Page} {num : Int} {mv : Value} {ms : List Mark} (hP : PagesInv e w2 base L (.slice (some ⟨g, 0, none⟩) n c) rows front num mv ms) (hgs : g < w2.heap.size) (hL : ∀ b ∈ L, b < w2.heap.size) :
    ∀ b ∈ blk mv ++ (g :: L), b < w2.heap.size := by
  intro b hb
  rcases List.mem_append.1 hb with hb | hb
  · exact hP.cells.2.2.2.blk_lt b hb
  · rcases List.mem_cons.1 hb with rfl | hb
    · exact hgs
    · exact hL b hb
theorem own_apart {w2 : World} {base g n c : Nat} {e : TypeId} {L : List Nat} {rows : List (Int × Value)} {front : List Page} {num : Int} {mv : Value} {ms : List Mark} (hP : PagesInv e w2 base L (.slice (some ⟨g, 0, none⟩) n c) rows front num mv ms) : some g ≠ mv.ownBlock := by
  obtain ⟨_, _, hq, _⟩ := hP.cells.2.2.2
  exact fun e => hq g e.symm List.mem_cons_self
/-- The cut of one mark, as it is handed on. -/
theorem cut_one {w w2 : World} {base g n c b1 o1 cc k : Nat} {e : TypeId} {L : List Nat} {rows : List (Int × Value)} {front : List Page} {num : Int} {mv : Value} {ms : List Mark} {xs : List Mark} (H : Sl rMark w L (.slice (some ⟨b1, o1, none⟩) n cc) xs)
    (hP : PagesInv e w2 w.heap.size L (.slice (some ⟨g, 0, none⟩) base c) rows front num mv ms) (hg : w.heap.size ≤ g) (hB : Below w.heap.size w w2) (hlt : k < xs.length) :
    Sl rMark w2.drew (blk mv ++ (g :: L)) (.slice (some ⟨b1, o1 + k * 9, none⟩) 1 (cc - k)) [xs[k]] := by
  have hs1 := (H.into (M := blk mv ++ [g]) (below_drew hB) (by
    intro b hb
    rcases List.mem_append.1 hb with hb | hb
    · exact hP.cells.2.2.2.blk_ge b hb
    · simp at hb; omega)).cut (i := k) (j := k + 1) (by omega) (by omega)
  have hd1 : (xs.drop k).take (k + 1 - k) = [xs[k]] := by
    rw [show k + 1 - k = 1 from by omega, List.drop_eq_getElem_cons hlt]; rfl
  rwa [hd1, show k + 1 - k = 1 from by omega, List.append_assoc] at hs1

theorem below_ada (w : World) (a b : Obj) (n : Nat) : Below w.heap.size w (((w.alloc a).drewN n).alloc b) :=
  (below_drewN ((Below.refl _ _).alloc (Nat.le_refl _) _) _).alloc (by simp) _
theorem new_cells2 (w : World) (a : Obj) (n : Nat) (c : List Value) (t : TypeId) (j : Nat) (u : Value) (h : c[j]? = some u) : (((w.alloc a).drewN n).alloc (.cells c.toArray t)).cell? ⟨w.heap.size + 1, j, none⟩ = some u := by
  have := new_cells ((w.alloc a).drewN n) c t j u h
  simpa using this
/-- A new page, as the first or behind others. -/
theorem next_page {wr W w2 : World} {base g n c g' cap : Nat} {e : TypeId} {L : List Nat} {rows R : List (Int × Value)} {front : List Page} {num pg : Int} {mv : Value} {ms : List Mark} (hP : PagesInv e wr base L (.slice (some ⟨g, 0, none⟩) n c) rows front num mv ms) (hR : R = rows ++ [(num, mv)]) (hB : Below wr.heap.size wr W)
    (hO : OwnS rRaw e w2 base L (.slice (some ⟨g', 0, none⟩) (R.length + 1) cap) (R ++ [(pg, .slice none 0 0)])) (hg : W.grownBy w2 (Value.slice (some ⟨g, 0, none⟩) n c).ownBlock) (hat : (Value.slice (some ⟨g, 0, none⟩) n c).ownBlock = some g' ∨ g' = W.heap.size) :
    ∃ mv2 ms2, PagesInv e w2 base L (.slice (some ⟨g', 0, none⟩) (R.length + 1) cap) R (front ++ [⟨num, ms⟩]) pg mv2 ms2 ∧ ms2 = [] := by
  subst hR
  refine ⟨_, _, (hP.below hB).next hO hg ?_, rfl⟩
  rcases hat with h | h
  · exact .inl h.symm
  · subst h
    by_cases hc : cap = 0
    · subst hc; exact .inr (by simp [Value.ownBlock])
    · exact .inr (by simp [Value.ownBlock])
theorem first_page {w2 : World} {base g cap : Nat} {e : TypeId} {L : List Nat} {R : List (Int × Value)} {pg : Int} (hR : R = []) (hO : OwnS rRaw e w2 base L (.slice (some ⟨g, 0, none⟩) (R.length + 1) cap) (R ++ [(pg, .slice none 0 0)])) :
    ∃ mv2 ms2, PagesInv e w2 base L (.slice (some ⟨g, 0, none⟩) (R.length + 1) cap) R [] pg mv2 ms2 ∧ ms2 = [] := by
  subst hR
  exact ⟨_, _, PagesInv.first hO, rfl⟩
theorem pages_end {w wr : World} {L : List Nat} {v : Value} {e : TypeId} {xs : List Mark} {k : Nat} (hk : k = xs.length) (h : (k = 0 ∧ v = .slice none 0 0) ∨ (0 < k ∧ ∃ rows front num mv ms, PagesInv e wr w.heap.size L v rows front num mv ms ∧ pagesOf (xs.take k) = front ++ [⟨num, ms⟩] ∧ (∀ h : k - 1 < xs.length, num = xs[k - 1].page) ∧ rows.length < k ∧ ms.length ≤ k)) :
    ∃ A' c', v = .slice A' (pagesOf xs).length c' ∧ OwnS rPage e wr w.heap.size L (.slice A' (pagesOf xs).length c') (pagesOf xs) := by
  have hO : OwnS rPage e wr w.heap.size L v (pagesOf xs) := by
    rcases h with ⟨h0, rfl⟩ | ⟨_, rows, front, num, mv, ms, hP, hpg, _⟩
    · have : xs = [] := List.eq_nil_of_length_eq_zero (by omega)
      subst this
      exact OwnS.nil _ _ _ _ _
    · rw [hk, List.take_length] at hpg
      rw [hpg]; exact hP.done
  obtain ⟨A', c', rfl⟩ := hO.val
  exact ⟨A', c', rfl, hO⟩
set_option maxHeartbeats 6400000 in
theorem pages_spec (w : World) (L : List Nat) (A : Option Addr) (c : Nat) (xs : List Mark) (h : Sl rMark w L (.slice A xs.length c) xs) (hc : xs.length ≤ c) (hL : ∀ b ∈ L, b < w.heap.size) (hn : xs.length ≤ 1000) (hN : ∀ m ∈ xs, m.n.length ≤ 17592186044416) :
    Calls Try.prog 5 #[.slice A xs.length c] w fun e w' => ∃ A' c', e = .returned (.slice A' (pagesOf xs).length c') ∧ OwnS rPage 24 w' w.heap.size L (.slice A' (pagesOf xs).length c') (pagesOf xs) ∧ Below w.heap.size w w' := by
  have HL := Lib.hid hL
  have HN := Lib.hid hN
  have H := Lib.hid h
  clear hN hL h
  go_enter Try.func5, Try.ntmps5
  go_wp2_with fail
  go_loopw [3, 9] (fun v i wr => ∃ (k : Nat) (r : Value), r = v ∧ k ≤ xs.length ∧ i = .int .i64 k ∧ Below w.heap.size w wr ∧
    ((k = 0 ∧ r = .slice none 0 0) ∨ (0 < k ∧ ∃ rows front num mv ms, PagesInv 24 wr w.heap.size L r rows front num mv ms ∧ pagesOf (xs.take k) = front ++ [⟨num, ms⟩] ∧ (∀ h : k - 1 < xs.length, num = xs[k - 1].page) ∧ rows.length < k ∧ ms.length ≤ k))) (fun _ i _ => xs.length - (intOf i).toNat)
  case atStart => exact ⟨0, _, rfl, Nat.zero_le _, rfl, Below.refl _ _, .inl ⟨rfl, rfl⟩⟩
  case round =>
    obtain ⟨k, v, rfl, hk, rfl, hB, hP⟩ := hrel
    by_cases hlt : k < xs.length
    · rcases hP with ⟨hk0, rfl⟩ | ⟨hk0, rows, front, num, mv, ms, hP, hpg, hnum, hr, hms⟩
      · obtain ⟨b1, o1, A8, c8, rfl, l1, n1, e0, e1, e2, e3, e4, e5, e6, e7, e8⟩ := mark_cells (H.out.below hB) hlt
        have hxt := take_snoc hlt
        have HC := Lib.hid (fun (w2 : World) (rows : List (Int × Value)) (front : List Page) (num : Int) (mv : Value) (ms : List Mark) (g n' cg : Nat) (hP : PagesInv 24 w2 w.heap.size L (.slice (some ⟨g, 0, none⟩) n' cg) rows front num mv ms) (hg : w.heap.size ≤ g) (hB : Below w.heap.size w w2) => cut_one H.out hP hg hB hlt)
        have HNx := Lib.hid (HN.out _ (List.getElem_mem hlt))
        generalize hx : xs[k] = x at *
        have HPG : Hid (pagesOf (xs.take (k + 1)) = [] ++ [⟨x.page, [] ++ [x]⟩]) := Lib.hid (by rw [hxt, hk0]; rfl)
        have HX := Lib.hid hx
        clear n1 hxt hx
        have i1 : (k : Int) < (xs.length : Int) := by omega
        have i3 : (0 : Int) ≤ (k : Int) := by omega
        have gk : ((k : Int) == 0) = true := by rw [hk0]; rfl
        obtain ⟨R, hR⟩ : ∃ R : List (Int × Value), R = [] := ⟨_, rfl⟩
        have HRl : Hid (R.length = 0) := Lib.hid (by rw [hR]; rfl)
        have hRb : R.length < k + 1 := by have := HRl.out; omega
        have HR : Hid (OwnS rRaw 24 wr w.heap.size L (.slice none 0 0) R) := Lib.hid (by rw [hR]; exact OwnS.nil _ _ _ _ _)
        have HRe := Lib.hid hR
        have HK := Lib.hid hk0
        clear hR hk0
        go_wp2_with fail
        go_quiet (fail)
        go_wp2_with (
          at_builtin
          refine wpList_push1 rRaw (by rfl) _ _ _ (by rfl) w.heap.size 24 _ 32 L R (x.page, .slice none 0 0) [.int .i64 x.page, .slice none 0 0] (.slice none 0 0) (wr.heap.size + 1) Try.underlying26 infoPage (by rfl) (by decide) (by rfl) ?hO (by rfl) ?hc ?hy ?hl ?h63 ?hb ?hL ?_
          rotate_right
          intro g cap w2 hO2 hgr2 hfr2 hat2 hlt2)
        case hO => exact HR.out.below (below_ada _ _ _ _)
        case hc => exact new_cells2 wr _ _ [_, _] _
        case hy => exact rRaw_mk _ _ _ rfl
        case hl => have := HRl.out; omega
        case h63 => have := HRl.out; omega
        case hb => have := hB.size; simp; omega
        case hL => intro b hb; have := HL.out b hb; have := hB.size; simp; omega
        have hBw2 : Below w.heap.size w w2 := hfr2 _ _ (below_trans hB (below_ada _ _ _ _) hB.size) (Nat.le_refl _)
        obtain ⟨mv, ms, hP2, hm0⟩ := first_page HRe.out hO2
        have HM0 := Lib.hid hm0
        have HP2 := Lib.hid hP2
        have hms : ms.length ≤ k := by rw [hm0]; simp
        have hg1 : w.heap.size ≤ g := by obtain ⟨_, _, e, h, _⟩ := hP2.shape; cases e; exact h
        have HS1 := Lib.hid (HC.out _ _ _ _ _ _ _ _ _ hP2 hg1 hBw2)
        clear hP2 hm0 hO2 hgr2 hat2 hfr2
        have s1 : (0 : Int) ≤ (k : Int) := by omega
        have s2 : (k : Int) ≤ (k : Int) + 1 := by omega
        have s3 : (k : Int) + 1 ≤ (c : Int) := by omega
        have s4 : ¬ c = k := by omega
        have s5 : IntKind.i64.wrap ((k : Int) + 1) = (k : Int) + 1 := IntWalk.i64_in _ (by omega)
        have s6 : (0 : Int) ≤ (k : Int) + 1 := by omega
        have s7 : max ((k : Int) + 1) 0 = (k : Int) + 1 := by omega
        have s8 : ((k : Int) + 1).toNat = k + 1 := by omega
        obtain ⟨r0, r1, r2, hM2⟩ := HP2.out.cells
        have HM2 := Lib.hid hM2
        have hgb := own_apart HP2.out
        have hgs2 : g < w2.heap.size := by obtain ⟨_, _, e, _, h⟩ := HP2.out.shape; cases e; exact h
        have HLm := Lib.hid (lists_lt HP2.out hgs2 (fun b hb => by have := HL.out b hb; have := hBw2.size; omega))
        clear hM2
        go_region_law (first
          | (refine step_pushAll rMark (by rfl) _ _ _ (by rfl) w.heap.size 45 _ 112 (g :: L) ms [x] mv _ Try.underlying22 infoMark (by rfl) (by decide) (by rfl) ?hO (by rfl) ?hy ?hl ?h63 ?hb ?hL ?_
             case hO => exact HM2.out.below hB3
             case hy => exact hO3.sl
             case hl => simp; omega
             case h63 => simp; omega
             case hb => have := hB3.size; have := hBw2.size; omega
             case hL => intro b hb; have := HLm.out b (List.mem_append_right _ hb); have := hB3.size; omega
             intro A2 c2 w4 hO2 hgr2 hfr2 hat2
             have q4 := (cell_of_heap (hgr2.block g (by have := hB3.size; omega) hgb) (R.length * 2 + 1)).trans q3
             have z4 := (frozen_of_heap (hgr2.block g (by have := hB3.size; omega) hgb) (R.length * 2 + 1)).trans z3)
          | (go_simp; go_at_call 13; refine (own_spec _ (blk mv ++ (g :: L)) _ _ [x] HS1.out HLm.out ?hn ?hN).mono ?_
             case hn => simp
             case hN => intro m hm; simp at hm; subst hm; exact HNx.out
             rintro e w3 ⟨A3, c3, rfl, hO3, hb3⟩
             have hB3 : Below w2.heap.size w2 w3 := (below_drew (Below.refl w2.heap.size w2)).trans hb3
             have q3 := cell_up hB3 r1
             have z3 := frozen_up hB3 hgs2 r2))
        all_goals
          have HPF := Lib.hid ((HP2.out.below hB3).mark hO2 hgr2 hat2)
          have hBf := (hfr2 _ _ (below_trans hBw2 hB3 hBw2.size) (Nat.le_refl _)).setCell (p := ⟨g, R.length * 2 + 1, none⟩) hg1 (.slice A2 (ms.length + [x].length) c2)
          clear hO2 hgr2 hfr2 hat2 q4 z4 hO3 hb3 hB3 q3 z3 r0 r1 r2 HM2
          go_wp2_with fail
          go_roundw
          case rel => exact ⟨k + 1, _, rfl, by omega, by go_num, hBf, .inr ⟨by omega, R, _, _, _, ms ++ [x], HPF.out, by rw [HPG.out, HM0.out], fun _ => by rw [← HX.out]; rfl, by omega, by simp; omega⟩⟩
          case measure => simp [intOf]; omega
      · obtain ⟨j, rfl⟩ : ∃ j, k = j + 1 := ⟨k - 1, by omega⟩
        have hj : j < xs.length := by omega
        obtain ⟨b1, o1, A8, c8, rfl, l1, n1, e0, e1, e2, e3, e4, e5, e6, e7, e8⟩ := mark_cells (H.out.below hB) hlt
        obtain ⟨b2, o2, A9, c9, hbo, l2, n2, f0, f1, f2, f3, f4, f5, f6, f7, f8⟩ := mark_cells (H.out.below hB) hj
        cases hbo
        obtain ⟨g, cg, rfl, hg1, hg2⟩ := hP.shape
        have HP := Lib.hid hP
        have hnum' := hnum (by omega)
        simp only [Nat.add_sub_cancel] at hnum'
        have hxt := take_snoc hlt
        have HC := Lib.hid (fun (w2 : World) (rows : List (Int × Value)) (front : List Page) (num : Int) (mv : Value) (ms : List Mark) (g n' cg : Nat) (hP : PagesInv 24 w2 w.heap.size L (.slice (some ⟨g, 0, none⟩) n' cg) rows front num mv ms) (hg : w.heap.size ≤ g) (hB : Below w.heap.size w w2) => cut_one H.out hP hg hB hlt)
        have HNx := Lib.hid (HN.out _ (List.getElem_mem hlt))
        generalize hx : xs[j+1] = x at *
        have HPG : Hid (pagesOf (xs.take (j + 1 + 1)) = addMark (front ++ [⟨num, ms⟩]) x) := Lib.hid (by rw [hxt, pagesOf_snoc, hpg])
        have HX := Lib.hid hx
        clear hP hpg hnum n1 n2 f1 f2 f3 f4 f5 f6 f7 f8 hxt hx
        have i1 : ((j : Int) + 1) < (xs.length : Int) := by omega
        have i2 : (j : Int) < (xs.length : Int) := by omega
        have i3 : (0 : Int) ≤ (j : Int) := by omega
        have gk : ((j : Int) + 1 == 0) = false := by rw [beq_eq_false_iff_ne]; omega
        by_cases hpe : xs[j].page = x.page
        · have g0 : (xs[j].page != x.page) = false := by simp [hpe]
          have HPE := Lib.hid (hnum'.trans hpe)
          clear hpe hnum'
          go_wp2_with fail
          go_quiet (fail)
          go_wp2_with fail
          refine wp_abs ?_
          intro w2 hw2
          have hB2 : Below wr.heap.size wr w2 := by rw [hw2]; exact below_drewN ((Below.refl _ _).alloc (Nat.le_refl _) _) _
          clear hw2
          have hBw2 := below_trans hB hB2 hB.size
          have HP2 := Lib.hid (HP.out.below hB2)
          have HS1 := Lib.hid (HC.out _ _ _ _ _ _ _ _ _ HP2.out hg1 hBw2)
          have s1 : (0 : Int) ≤ ((j : Int) + 1) := by omega
          have s2 : ((j : Int) + 1) ≤ ((j : Int) + 1) + 1 := by omega
          have s3 : ((j : Int) + 1) + 1 ≤ (c : Int) := by omega
          have s4 : ¬ c = (j + 1) := by omega
          have s5 : IntKind.i64.wrap (((j : Int) + 1) + 1) = ((j : Int) + 1) + 1 := IntWalk.i64_in _ (by omega)
          have s6 : (0 : Int) ≤ ((j : Int) + 1) + 1 := by omega
          have s7 : max (((j : Int) + 1) + 1) 0 = ((j : Int) + 1) + 1 := by omega
          have s8 : (((j : Int) + 1) + 1).toNat = (j + 1) + 1 := by omega
          obtain ⟨r0, r1, r2, hM2⟩ := HP2.out.cells
          have HM2 := Lib.hid hM2
          have hgb := own_apart HP2.out
          have hgs2 : g < w2.heap.size := by obtain ⟨_, _, e, _, h⟩ := HP2.out.shape; cases e; exact h
          have HLm := Lib.hid (lists_lt HP2.out hgs2 (fun b hb => by have := HL.out b hb; have := hBw2.size; omega))
          clear hM2
          go_region_law (first
            | (refine step_pushAll rMark (by rfl) _ _ _ (by rfl) w.heap.size 45 _ 112 (g :: L) ms [x] mv _ Try.underlying22 infoMark (by rfl) (by decide) (by rfl) ?hO (by rfl) ?hy ?hl ?h63 ?hb ?hL ?_
               case hO => exact HM2.out.below hB3
               case hy => exact hO3.sl
               case hl => simp; omega
               case h63 => simp; omega
               case hb => have := hB3.size; have := hBw2.size; omega
               case hL => intro b hb; have := HLm.out b (List.mem_append_right _ hb); have := hB3.size; omega
               intro A2 c2 w4 hO2 hgr2 hfr2 hat2
               have q4 := (cell_of_heap (hgr2.block g (by have := hB3.size; omega) hgb) (rows.length * 2 + 1)).trans q3
               have z4 := (frozen_of_heap (hgr2.block g (by have := hB3.size; omega) hgb) (rows.length * 2 + 1)).trans z3)
            | (go_simp; go_at_call 13; refine (own_spec _ (blk mv ++ (g :: L)) _ _ [x] HS1.out HLm.out ?hn ?hN).mono ?_
               case hn => simp
               case hN => intro m hm; simp at hm; subst hm; exact HNx.out
               rintro e w3 ⟨A3, c3, rfl, hO3, hb3⟩
               have hB3 : Below w2.heap.size w2 w3 := (below_drew (Below.refl w2.heap.size w2)).trans hb3
               have q3 := cell_up hB3 r1
               have z3 := frozen_up hB3 hgs2 r2))
          all_goals
            have HPF := Lib.hid ((HP2.out.below hB3).mark hO2 hgr2 hat2)
            have hBf := (hfr2 _ _ (below_trans hBw2 hB3 hBw2.size) (Nat.le_refl _)).setCell (p := ⟨g, rows.length * 2 + 1, none⟩) hg1 (.slice A2 (ms.length + [x].length) c2)
            clear hO2 hgr2 hfr2 hat2 q4 z4 hO3 hb3 hB3 q3 z3 r0 r1 r2 HM2
            go_wp2_with fail
            go_roundw
            case rel => exact ⟨j + 1 + 1, _, rfl, by omega, by go_num, hBf, .inr ⟨by omega, rows, _, _, _, ms ++ [x], HPF.out, by rw [HPG.out, addMark_same HPE.out], fun _ => by rw [HPE.out, ← HX.out]; rfl, by omega, by simp; omega⟩⟩
            case measure => simp [intOf]; omega
        · have g0 : (xs[j].page != x.page) = true := by simp [hpe]
          have HPE : Hid (num ≠ x.page) := Lib.hid (by rw [hnum']; exact hpe)
          clear hpe hnum'
          obtain ⟨R, hR⟩ : ∃ R, R = rows ++ [(num, mv)] := ⟨_, rfl⟩
          have HRl : Hid (R.length = rows.length + 1) := Lib.hid (by rw [hR]; simp)
          have hRb : R.length < j + 1 + 1 := by have := HRl.out; omega
          have HR : Hid (OwnS rRaw 24 wr w.heap.size L (.slice (some ⟨g, 0, none⟩) (rows.length + 1) cg) R) := Lib.hid (by rw [hR]; exact HP.out.1)
          have HRe := Lib.hid hR
          clear hR
          go_wp2_with fail
          go_quiet (fail)
          go_wp2_with (
            at_builtin
            refine wpList_push1 rRaw (by rfl) _ _ _ (by rfl) w.heap.size 24 _ 32 L R (x.page, .slice none 0 0) [.int .i64 x.page, .slice none 0 0] (.slice (some ⟨g, 0, none⟩) (rows.length + 1) cg) (wr.heap.size + 1) Try.underlying26 infoPage (by rfl) (by decide) (by rfl) ?hO (by rfl) ?hc ?hy ?hl ?h63 ?hb ?hL ?_
            rotate_right
            intro g cap w2 hO2 hgr2 hfr2 hat2 hlt2)
          case hO => exact HR.out.below (below_ada _ _ _ _)
          case hc => exact new_cells2 wr _ _ [_, _] _
          case hy => exact rRaw_mk _ _ _ rfl
          case hl => have := HRl.out; omega
          case h63 => have := HRl.out; omega
          case hb => have := hB.size; simp; omega
          case hL => intro b hb; have := HL.out b hb; have := hB.size; simp; omega
          have hBw2 : Below w.heap.size w w2 := hfr2 _ _ (below_trans hB (below_ada _ _ _ _) hB.size) (Nat.le_refl _)
          obtain ⟨mv, ms, hP2, hm0⟩ := next_page HP.out HRe.out (below_ada _ _ _ _) hO2 hgr2 hat2
          have HM0 := Lib.hid hm0
          have HP2 := Lib.hid hP2
          have hms : ms.length ≤ j := by rw [hm0]; simp
          have hg1 : w.heap.size ≤ g := by obtain ⟨_, _, e, h, _⟩ := hP2.shape; cases e; exact h
          have HS1 := Lib.hid (HC.out _ _ _ _ _ _ _ _ _ hP2 hg1 hBw2)
          clear hP2 hm0 hO2 hgr2 hat2 hfr2
          have s1 : (0 : Int) ≤ ((j : Int) + 1) := by omega
          have s2 : ((j : Int) + 1) ≤ ((j : Int) + 1) + 1 := by omega
          have s3 : ((j : Int) + 1) + 1 ≤ (c : Int) := by omega
          have s4 : ¬ c = (j + 1) := by omega
          have s5 : IntKind.i64.wrap (((j : Int) + 1) + 1) = ((j : Int) + 1) + 1 := IntWalk.i64_in _ (by omega)
          have s6 : (0 : Int) ≤ ((j : Int) + 1) + 1 := by omega
          have s7 : max (((j : Int) + 1) + 1) 0 = ((j : Int) + 1) + 1 := by omega
          have s8 : (((j : Int) + 1) + 1).toNat = (j + 1) + 1 := by omega
          obtain ⟨r0, r1, r2, hM2⟩ := HP2.out.cells
          have HM2 := Lib.hid hM2
          have hgb := own_apart HP2.out
          have hgs2 : g < w2.heap.size := by obtain ⟨_, _, e, _, h⟩ := HP2.out.shape; cases e; exact h
          have HLm := Lib.hid (lists_lt HP2.out hgs2 (fun b hb => by have := HL.out b hb; have := hBw2.size; omega))
          clear hM2
          go_region_law (first
            | (refine step_pushAll rMark (by rfl) _ _ _ (by rfl) w.heap.size 45 _ 112 (g :: L) ms [x] mv _ Try.underlying22 infoMark (by rfl) (by decide) (by rfl) ?hO (by rfl) ?hy ?hl ?h63 ?hb ?hL ?_
               case hO => exact HM2.out.below hB3
               case hy => exact hO3.sl
               case hl => simp; omega
               case h63 => simp; omega
               case hb => have := hB3.size; have := hBw2.size; omega
               case hL => intro b hb; have := HLm.out b (List.mem_append_right _ hb); have := hB3.size; omega
               intro A2 c2 w4 hO2 hgr2 hfr2 hat2
               have q4 := (cell_of_heap (hgr2.block g (by have := hB3.size; omega) hgb) (R.length * 2 + 1)).trans q3
               have z4 := (frozen_of_heap (hgr2.block g (by have := hB3.size; omega) hgb) (R.length * 2 + 1)).trans z3)
            | (go_simp; go_at_call 13; refine (own_spec _ (blk mv ++ (g :: L)) _ _ [x] HS1.out HLm.out ?hn ?hN).mono ?_
               case hn => simp
               case hN => intro m hm; simp at hm; subst hm; exact HNx.out
               rintro e w3 ⟨A3, c3, rfl, hO3, hb3⟩
               have hB3 : Below w2.heap.size w2 w3 := (below_drew (Below.refl w2.heap.size w2)).trans hb3
               have q3 := cell_up hB3 r1
               have z3 := frozen_up hB3 hgs2 r2))
          all_goals
            have HPF := Lib.hid ((HP2.out.below hB3).mark hO2 hgr2 hat2)
            have hBf := (hfr2 _ _ (below_trans hBw2 hB3 hBw2.size) (Nat.le_refl _)).setCell (p := ⟨g, R.length * 2 + 1, none⟩) hg1 (.slice A2 (ms.length + [x].length) c2)
            clear hO2 hgr2 hfr2 hat2 q4 z4 hO3 hb3 hB3 q3 z3 r0 r1 r2 HM2
            go_wp2_with fail
            go_roundw
            case rel => exact ⟨j + 1 + 1, _, rfl, by omega, by go_num, hBf, .inr ⟨by omega, R, _, _, _, ms ++ [x], HPF.out, by rw [HPG.out, addMark_new HPE.out, HM0.out]; rfl, fun _ => by rw [← HX.out]; rfl, by omega, by simp; omega⟩⟩
            case measure => simp [intOf]; omega
    · have hk' : k = xs.length := by omega
      have HE := Lib.hid (pages_end hk' hP)
      clear hP hk'
      have i1 : ¬ ((k : Int) < (xs.length : Int)) := by omega
      go_wp2
      go_ret
      obtain ⟨A', c', he, hO⟩ := HE.out
      exact ⟨A', c', by rw [← he]; rfl, hO, hB⟩
end Go.Proofs.Ytfejkaemledipaa
