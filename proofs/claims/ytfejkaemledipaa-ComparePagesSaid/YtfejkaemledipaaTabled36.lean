/- The least-cost tables are what cst says. -/
import Derived.Test.YtfejkaemledipaaGrids36
import Derived.Lib.MinMax
import Derived.Deep.CutRange
namespace Go.Proofs.Ytfejkaemledipaa
open Go.RowKit
theorem infoRowI : (Try.prog.info? 43).map (fun i => (i.zero, i.size, i.bytes)) = some (some (.slice none 0 0), 1, 24) := by kernel_rfl
theorem infoRowB : (Try.prog.info? 55).map (fun i => (i.zero, i.size, i.bytes)) = some (some (.slice none 0 0), 1, 24) := by kernel_rfl
theorem infoB : (Try.prog.info? 4).map (fun i => (i.zero, i.size, i.bytes)) = some (some (.bool false), 1, 1) := by kernel_rfl
theorem infoI : (Try.prog.info? 3).map (fun i => (i.zero, i.size, i.bytes)) = some (some (.int .i64 0), 1, 8) := by kernel_rfl
theorem make_rows {P : Program} {t e : TypeId} {z : Value} {bytes : Nat} (ht : P.underlying t = some (.slice e)) (hi : (P.info? e).map (fun i => (i.zero, i.size, i.bytes)) = some (some z, 1, bytes)) (hz : z.cells = #[z]) (hb : bytes ≤ 8) (n : Nat) (hn : n ≤ 200) (w : World) :
    (Instr.makeSlice t (.int .i64 ((n : Int) + 1)) (.int .i64 ((n : Int) + 1))).run P w = .ok (.slice (some ⟨w.heap.size, 0, none⟩) (n + 1) (n + 1)) (w.alloc (.cells (madeCells #[z] (n + 1)) e)) := by
  obtain ⟨i0, h0, h1, h2, h3⟩ := info_parts hi
  have hb' : (i0.bytes : Int) * ((n : Int) + 1) ≤ 281474976710656 := by
    rw [h3]
    have h1 : ((bytes * (n + 1) : Nat) : Int) ≤ 281474976710656 := by
      have : bytes * (n + 1) ≤ 8 * (n + 1) := Nat.mul_le_mul_right _ hb
      omega
    rwa [Int.natCast_mul] at h1
  have := run_make (P := P) w t e i0 z ht h0 h1 .i64 .i64 ((n : Int) + 1) ((n : Int) + 1) (by omega) (Int.le_refl _) hb' (by omega)
  rw [this, hz, h2, Nat.mul_one, show ((n : Int) + 1).toNat = n + 1 from by omega]

/-- The two tables, read. -/
def Tables (w : World) (sz g1 g2 : Nat) (r1 r2 : Nat → Nat) (n m : Nat) (f : Nat → Nat → Int) (s : Nat → Nat → Bool) : Prop :=
  Grid (Value.int .i64) w sz (avs sz g2 r2 n) g1 r1 n m f ∧ Grid Value.bool w sz (avs sz g1 r1 n) g2 r2 n m s
theorem exit_cells {w : World} {sz : Nat} {v1 v2 o1 o2 : Value} (h1 : w.cell? ⟨sz, 0, none⟩ = some o1) (h2 : w.cell? ⟨sz, 1, none⟩ = some o2) :
    ((w.setCell ⟨sz, 0, none⟩ v1).setCell ⟨sz, 1, none⟩ v2).cell? ⟨sz, 0, none⟩ = some v1 ∧ ((w.setCell ⟨sz, 0, none⟩ v1).setCell ⟨sz, 1, none⟩ v2).cell? ⟨sz, 1, none⟩ = some v2 := by
  constructor
  · rw [World.cell?_setCell_other (h := by intro e; cases e)]
    exact World.cell?_setCell_same _ _ _ h1
  · refine World.cell?_setCell_same _ _ _ (u := o2) ?_
    rw [World.cell?_setCell_other (h := by intro e; cases e)]
    exact h2
theorem Grids.leave {wr : World} {sz g1 c1 g2 c2 : Nat} {r1 r2 : Nat → Nat} {n m : Nat} {f : Nat → Nat → Int} {s : Nat → Nat → Bool} (h : Grids wr sz g1 c1 g2 c2 r1 r2 n m f s) (v1 v2 : Value) :
    Tables ((wr.setCell ⟨sz, 0, none⟩ v1).setCell ⟨sz, 1, none⟩ v2) sz g1 g2 r1 r2 n m f s := by
  obtain ⟨_, _, _, G1, G2⟩ := h
  have key : ∀ b, b ≠ sz → ((wr.setCell ⟨sz, 0, none⟩ v1).setCell ⟨sz, 1, none⟩ v2).heap[b]? = wr.heap[b]? := fun b hb => by
    rw [setCell_other _ _ _ _ _ hb, setCell_other _ _ _ _ _ hb]
  exact ⟨G1.move fun b _ hn => ⟨hn, key b fun e => hn (.inl e)⟩, G2.move fun b _ hn => ⟨hn, key b fun e => hn (.inl e)⟩⟩
theorem tabs_start (w : World) (e1 e2 t1 t2 : TypeId) (m : Nat) : Tabs e1 e2 ((w.alloc (.cells #[.slice none 0 0, .slice none 0 0] t1)).alloc (.cells #[.slice none 0 0, .slice none 0 0] t2)) w.heap.size (.slice none 0 0) (.slice none 0 0) [] [] m := by
  have hs : (w.alloc (.cells #[.slice none 0 0, .slice none 0 0] t1)).heap.size = w.heap.size + 1 := by simp
  have n1 := new_cells w [.slice none 0 0, .slice none 0 0] t1
  have n2 := new_cells (w.alloc (.cells #[.slice none 0 0, .slice none 0 0] t1)) [.slice none 0 0, .slice none 0 0] t2
  rw [hs] at n2
  have hB : Below (w.alloc (.cells #[.slice none 0 0, .slice none 0 0] t1)).heap.size (w.alloc (.cells #[.slice none 0 0, .slice none 0 0] t1)) ((w.alloc (.cells #[.slice none 0 0, .slice none 0 0] t1)).alloc (.cells #[.slice none 0 0, .slice none 0 0] t2)) := (Below.refl _ _).alloc (Nat.le_refl _) _
  have h1 : ((w.alloc (.cells #[.slice none 0 0, .slice none 0 0] t1)).alloc (.cells #[.slice none 0 0, .slice none 0 0] t2)).heap[w.heap.size]? = some (.cells #[.slice none 0 0, .slice none 0 0] t1) := by
    rw [hB.block _ (by omega)]
    show (w.heap.push _)[w.heap.size]? = _
    rw [Array.getElem?_push, if_pos rfl]
  have h2 : ((w.alloc (.cells #[.slice none 0 0, .slice none 0 0] t1)).alloc (.cells #[.slice none 0 0, .slice none 0 0] t2)).heap[w.heap.size + 1]? = some (.cells #[.slice none 0 0, .slice none 0 0] t2) := by
    show ((w.alloc (.cells #[.slice none 0 0, .slice none 0 0] t1)).heap.push _)[w.heap.size + 1]? = _
    rw [Array.getElem?_push, if_pos hs.symm]
  refine ⟨⟨n2 0 _ rfl, n2 1 _ rfl, cell_up hB (n1 0 _ rfl), cell_up hB (n1 1 _ rfl)⟩, fun o => ?_, fun o => ?_, by simp, Tab.nil _ _ _ _ _ _, Tab.nil _ _ _ _ _ _⟩
  · simp only [World.frozen?, h1]; simp
  · simp only [World.frozen?, h2]; simp
theorem getE {l : List Page} {i : Nat} {p : Page} (h : l[i]? = some p) (hi : i < l.length) : l[i] = p := by
  rw [List.getElem?_eq_getElem hi] at h
  injection h
set_option maxRecDepth 100000 in
set_option maxHeartbeats 40000000 in
theorem tabled_spec (w : World) (L : List Nat) (A B : Option Addr) (c d : Nat) (xs ys : List Page) (hx : Sl rPage w L (.slice A xs.length c) xs) (hy : Sl rPage w L (.slice B ys.length d) ys) (hL : ∀ b ∈ L, b < w.heap.size) (hnx : xs.length ≤ 200) (hny : ys.length ≤ 200) :
    Calls Try.prog 18 #[.slice A xs.length c, .slice B ys.length d] w fun e w' => ∃ g1 e1 g2 e2 r1 r2 f s, e = .returned (.agg #[.slice (some ⟨g1, 0, none⟩) (xs.length + 1) e1, .slice (some ⟨g2, 0, none⟩) (xs.length + 1) e2]) ∧ Tables w' w.heap.size g1 g2 r1 r2 (xs.length + 1) (ys.length + 1) f s ∧ Done xs ys ((xs.length : Int) + ys.length + 1) f s 0 0 ∧ Below w.heap.size w w' := by
  have HX := Lib.hid hx
  have HY := Lib.hid hy
  have HL := Lib.hid hL
  clear hx hy hL
  have hmi := fun w => make_rows (P := Try.prog) (t := 43) Try.underlying43 infoI rfl (by decide) ys.length hny w
  have hmb := fun w => make_rows (P := Try.prog) (t := 55) Try.underlying55 infoB rfl (by decide) ys.length hny w
  have sy : IntKind.i64.wrap ((ys.length : Int) + 1) = (ys.length : Int) + 1 := IntWalk.i64_in _ (by omega)
  go_enter Try.func18, Try.ntmps18
  go_wp2_with fail
  have hm200 : ys.length + 1 ≤ 201 := by omega
  obtain ⟨m, hm⟩ : ∃ m, m = ys.length + 1 := ⟨_, rfl⟩
  go_loopw [13] (fun i wr => ∃ (k : Nat) (v1 v2 : Value) (bl1 bl2 : List Nat), k ≤ xs.length + 1 ∧ i = .int .i64 k ∧ Below w.heap.size w wr ∧ Tabs 43 55 wr w.heap.size v1 v2 bl1 bl2 (ys.length + 1) ∧ bl1.length = k ∧ bl2.length = k) (fun i _ => xs.length + 1 - (intOf i).toNat)
  case atStart => exact ⟨0, _, _, [], [], Nat.zero_le _, rfl, ((Below.refl _ _).alloc (Nat.le_refl _) _).alloc (by simp) _, tabs_start w _ _ _ _ _, rfl, rfl⟩
  case round =>
    obtain ⟨k, v1, v2, bl1, bl2, hk, rfl, hB, hT, hl1, hl2⟩ := hrel
    by_cases hlt : k < xs.length + 1
    · have i1 : (k : Int) < (xs.length : Int) + 1 := by omega
      have HT := Lib.hid hT
      obtain ⟨⟨c1, c2, c3, c4⟩, f1, f2, hs, _, _⟩ := hT
      have f20 := f2 0
      have f21 := f2 1
      obtain ⟨R, hR⟩ : ∃ R, R = rowVals bl1 (ys.length + 1) := ⟨_, rfl⟩
      have hRl : R.length = bl1.length := by rw [hR, rowVals_length]
      have HRl : Hid (R.length ≤ 201) := Lib.hid (by omega)
      have HR := Lib.hid hR
      have HRl1 := Lib.hid hl1
      clear hR c3 c4 f1 f2 hRl hl1
      have c1a := fun o => cell_up ((Below.refl wr.heap.size wr).alloc (Nat.le_refl _) o) c1
      have c1b := fun o p => cell_up (((Below.refl wr.heap.size wr).alloc (Nat.le_refl _) o).alloc (by simp) p) c1
      go_wp2_with fail
      go_region_law (
        refine step_push Rp.raw (by rfl) _ _ _ (by rfl) w.heap.size 43 _ 24 ((w.heap.size :: (w.heap.size + 1) :: (blk v2 ++ bl2)) ++ bl1) R (.slice (some ⟨wr.heap.size, 0, none⟩) (ys.length + 1) (ys.length + 1)) [.slice (some ⟨wr.heap.size, 0, none⟩) (ys.length + 1) (ys.length + 1)] v1 (wr.heap.size + 1) Try.underlying50 infoRowI (by rfl) (by decide) (by rfl) ?hO (by rfl) ?hc ?hy ?hl ?h63 ?hb ?hL ?_
        case hO => rw [HR.out]; exact HT.out.own1.1.below (below_daa1 _ _ _)
        case hc => exact lit_cells _ _ _ _
        case hy => exact ⟨rfl, rfl⟩
        case hl => have := HRl.out; omega
        case h63 => have := HRl.out; omega
        case hb => have := hB.size; simp; omega
        case hL => intro b hb; have := HT.out.own1.2 b hb; simp; omega
        intro g cap w1 hO1 hgr1 hfr1 hat1 hlt1
        have q4 := (cell_of_heap (hgr1.block (w.heap.size + 1) (by simp; omega) HT.out.apart1) 0).trans (cell_up (below_daa1 _ _ _) c1)
        have z4 := (frozen_of_heap (hgr1.block (w.heap.size + 1) (by simp; omega) HT.out.apart1) 0).trans (frozen_up (below_daa1 _ _ _) (by omega) f20))
      all_goals
        go_wp2_with fail
        refine wp_abs ?_
        intro wx hwx
        have hTx : Tabs 43 55 wx w.heap.size (.slice (some ⟨g, 0, none⟩) (R.length + 1) cap) v2 (bl1 ++ [wr.heap.size]) bl2 (ys.length + 1) := by
          rw [hwx]
          exact HT.out.push1 (below_daa1 _ _ _) rfl (by simp; omega) (fun k hk => made_cells3 wr _ _ _ _ k hk) (by rw [← HR.out]; exact hO1) hgr1 (hat_of hat1)
        have hBx : Below w.heap.size w wx := by
          rw [hwx]
          exact (hfr1 _ _ (below_trans hB (below_daa1 _ _ _) hB.size) (Nat.le_refl _)).setCell (p := ⟨w.heap.size + 1, 0, none⟩) (by simp) _
        have HTx := Lib.hid hTx
        obtain ⟨⟨_, d2, _, _⟩, _, g2, hsx, _, _⟩ := hTx
        have g21 := g2 1
        obtain ⟨R2, hR2⟩ : ∃ R2, R2 = rowVals bl2 (ys.length + 1) := ⟨_, rfl⟩
        have hRl2 : R2.length = bl2.length := by rw [hR2, rowVals_length]
        have HRl2 : Hid (R2.length ≤ 201) := Lib.hid (by omega)
        have HR2 := Lib.hid hR2
        clear hwx hO1 hgr1 hfr1 hat1 hlt1 q4 z4 c1 c2 f20 f21 c1a c1b hR2 hRl2 g2
        have d2a := fun o => cell_up ((Below.refl wx.heap.size wx).alloc (Nat.le_refl _) o) d2
        have d2b := fun o p => cell_up (((Below.refl wx.heap.size wx).alloc (Nat.le_refl _) o).alloc (by simp) p) d2
        go_region_law (
          refine step_push Rp.raw (by rfl) _ _ _ (by rfl) w.heap.size 55 _ 24 ((w.heap.size :: (w.heap.size + 1) :: (blk (.slice (some ⟨g, 0, none⟩) (R.length + 1) cap) ++ (bl1 ++ [wr.heap.size]))) ++ bl2) R2 (.slice (some ⟨wx.heap.size, 0, none⟩) (ys.length + 1) (ys.length + 1)) [.slice (some ⟨wx.heap.size, 0, none⟩) (ys.length + 1) (ys.length + 1)] v2 (wx.heap.size + 1) Try.underlying51 infoRowB (by rfl) (by decide) (by rfl) ?hO (by rfl) ?hc ?hy ?hl ?h63 ?hb ?hL ?_
          case hO => rw [HR2.out]; exact HTx.out.own2.1.below (below_daa1 _ _ _)
          case hc => exact lit_cells _ _ _ _
          case hy => exact ⟨rfl, rfl⟩
          case hl => have := HRl2.out; omega
          case h63 => have := HRl2.out; omega
          case hb => have := hBx.size; simp; omega
          case hL => intro b hb; have := HTx.out.own2.2 b hb; simp; omega
          intro g' cap' w1 hO1 hgr1 hfr1 hat1 hlt1
          have q4 := (cell_of_heap (hgr1.block (w.heap.size + 1) (by simp; omega) HTx.out.apart2) 1).trans (cell_up (below_daa1 _ _ _) d2)
          have z4 := (frozen_of_heap (hgr1.block (w.heap.size + 1) (by simp; omega) HTx.out.apart2) 1).trans (frozen_up (below_daa1 _ _ _) (by omega) g21))
        all_goals
          have hTy := Lib.hid (HTx.out.push2 (below_daa1 _ _ _) rfl (by simp; omega) (fun k hk => made_cells3 wx _ _ _ _ k hk) (by rw [← HR2.out]; exact hO1) hgr1 (hat_of hat1))
          have hBy := (hfr1 _ _ (below_trans hBx (below_daa1 _ _ _) hBx.size) (Nat.le_refl _)).setCell (p := ⟨w.heap.size + 1, 1, none⟩) (by simp) (.slice (some ⟨g', 0, none⟩) (R2.length + 1) cap')
          clear hO1 hgr1 hfr1 hat1 hlt1 q4 z4 d2a d2b
          go_wp2_with fail
          go_roundw
          case rel => exact ⟨k + 1, _, _, _, _, by omega, by go_num, hBy, hTy.out, by simp [HRl1.out], by simp [hl2]⟩
          case measure => simp [intOf]; omega
    · obtain ⟨g1, e1, g2, e2, r1, r2, he1, he2, hG⟩ := hT.grids (n := xs.length + 1) (by omega) (by omega) (by omega)
      have HG := Lib.hid hG
      have i1 : ¬ (k : Int) < (xs.length : Int) + 1 := by omega
      clear hG hT hl1 hl2 he1 he2
      go_wp2_with fail
      go_loopw [6] (fun i wr => ∃ (z : Int) (p : Nat) (f : Nat → Nat → Int) (s : Nat → Nat → Bool), p ≤ xs.length + 1 ∧ i = .int .i64 z ∧ z + 1 = p ∧ Below w.heap.size w wr ∧ Grids wr w.heap.size g1 e1 g2 e2 r1 r2 (xs.length + 1) (ys.length + 1) f s ∧ Done xs ys ((xs.length : Int) + ys.length + 1) f s p 0) (fun i _ => (intOf i + 1).toNat)
      case atStart => exact ⟨_, xs.length + 1, _, _, Nat.le_refl _, rfl, by omega, hB, HG.out, Done.start _ _ _ _ _⟩
      case round =>
        obtain ⟨z, p, f, s, hp, rfl, hz, hBo, hGo, hD⟩ := hrel
        have HGo := Lib.hid hGo
        have HD := Lib.hid hD
        clear hGo hD HG hB i1 hk hlt
        rcases Nat.eq_zero_or_pos p with hp0 | hp0
        · obtain rfl : z = -1 := by omega
          subst hp0
          clear hz
          have a1 := HGo.out.1.1
          have a2 := HGo.out.1.2.1
          have a3 := HGo.out.1.2.2.1
          have a4 := HGo.out.1.2.2.2
          have a5 := HGo.out.2.1 0
          have a6 := HGo.out.2.1 1
          go_wp2_with fail
          obtain ⟨q0, q1⟩ := exit_cells (v1 := .slice (some ⟨g1, 0, none⟩) (xs.length + 1) e1) (v2 := .slice (some ⟨g2, 0, none⟩) (xs.length + 1) e2) a3 a4
          refine bodyPost_ret (v := .agg #[.slice (some ⟨g1, 0, none⟩) (xs.length + 1) e1, .slice (some ⟨g2, 0, none⟩) (xs.length + 1) e2]) ?_ rfl ⟨g1, e1, g2, e2, r1, r2, f, s, rfl, HGo.out.leave _ _, HD.out, (hBo.setCell (p := ⟨w.heap.size, 0, none⟩) (Nat.le_refl _) _).setCell (p := ⟨w.heap.size, 1, none⟩) (Nat.le_refl _) _⟩
          generalize ((wr.setCell ⟨w.heap.size, 0, none⟩ (.slice (some ⟨g1, 0, none⟩) (xs.length + 1) e1)).setCell ⟨w.heap.size, 1, none⟩ (.slice (some ⟨g2, 0, none⟩) (xs.length + 1) e2)) = W at *
          simp [results, Try.results18, go_sem, q0, q1]
        · obtain ⟨i, rfl⟩ : ∃ i, p = i + 1 := ⟨p - 1, by omega⟩
          obtain rfl : z = (i : Int) := by omega
          have hi0 : (0 : Int) ≤ (i : Int) := by omega
          clear hz
          go_wp2_with fail
          go_loopw [7] (fun k wr => ∃ (z : Int) (p : Nat) (f : Nat → Nat → Int) (s : Nat → Nat → Bool), p ≤ ys.length + 1 ∧ k = .int .i64 z ∧ z + 1 = p ∧ Below w.heap.size w wr ∧ Grids wr w.heap.size g1 e1 g2 e2 r1 r2 (xs.length + 1) (ys.length + 1) f s ∧ Done xs ys ((xs.length : Int) + ys.length + 1) f s i p) (fun k _ => (intOf k + 1).toNat)
          case atStart => exact ⟨_, ys.length + 1, _, _, Nat.le_refl _, rfl, by omega, hBo, HGo.out, HD.out.line⟩
          case round =>
            obtain ⟨z, p, f, s, hq, rfl, hz, hB, hG, hD⟩ := hrel
            have HG := Lib.hid hG
            have HD := Lib.hid hD
            rcases Nat.eq_zero_or_pos p with hp0 | hp0
            · obtain rfl : z = -1 := by omega
              subst hp0
              clear hz hD hG HGo hBo
              have hi0 : (0 : Int) ≤ (i : Int) := by omega
              go_wp2_with fail
              go_roundw
              case rel => exact ⟨_, i, _, _, by omega, rfl, by omega, hB, HG.out, HD.out⟩
              case measure => simp [intOf] <;> omega
            · obtain ⟨k, rfl⟩ : ∃ i, p = i + 1 := ⟨p - 1, by omega⟩
              obtain rfl : z = (k : Int) := by omega
              have hk0 : (0 : Int) ≤ (k : Int) := by omega
              clear hz
              clear HGo hBo
              have Hik : Hid (i ≤ xs.length ∧ k ≤ ys.length) := Lib.hid ⟨by omega, by omega⟩
              have a1 := HG.out.1.1
              have a2 := HG.out.1.2.1
              have b1 := HG.out.row1 (i := i) (by have := Hik.out.1; omega)
              have b2 := (HG.out.at1 (i := i) (k := k) (by have := Hik.out.1; omega) (by have := Hik.out.2; omega)).1
              have b3 := (HG.out.at1 (i := i) (k := k) (by have := Hik.out.1; omega) (by have := Hik.out.2; omega)).2
              by_cases hi : i < xs.length
              · have j1 : ((i : Int) == (xs.length : Int)) = false := by simp; omega
                have j2 : (i : Int) < (xs.length : Int) := by omega
                obtain ⟨y2, hy2, Hy2, y20, y2N⟩ := HD.out.get (i2 := i + 1) (k2 := k) (by omega) (by omega) (by omega) (.inl (by omega))
                have b5 := HG.out.row1 (i := i + 1) (by omega)
                have b6 := (HG.out.at1 (i := i + 1) (k := k) (by omega) (by omega)).1
                rw [hy2] at b6
                have HY2 := Lib.hid Hy2
                have k2 : (0 : Int) ≤ (i : Int) + 1 := by omega
                clear Hy2 hy2
                by_cases hk : k < ys.length
                · have j4 : (k : Int) < (ys.length : Int) := by omega
                  obtain ⟨y1, hy1, Hy1, y10, y1N⟩ := HD.out.get (i2 := i) (k2 := k + 1) (by omega) (by omega) (by omega) (.inr ⟨rfl, Nat.le_refl _⟩)
                  have b4 := (HG.out.at1 (i := i) (k := k + 1) (by omega) (by omega)).1
                  rw [hy1] at b4
                  have HH := Lib.hid (And.intro hi hk)
                  have Hy := Lib.hid Hy1
                  have k1 : (0 : Int) ≤ (k : Int) + 1 := by omega
                  obtain ⟨xb, xo, A1, d1, rfl, xl, xm, x0, x1⟩ := page_cells (HX.out.below hB) hi
                  obtain ⟨yb, yo, B1, d2, rfl, yl, ym, y0, y3⟩ := page_cells (HY.out.below hB) hk
                  have XM := Lib.hid xm
                  have YM := Lib.hid ym
                  have HC := Lib.hid (cst_kk (N := (xs.length : Int) + ys.length + 1) hi hk)
                  generalize hpx : xs[i] = px at *
                  generalize hpy : ys[k] = py at *
                  have HPX : Hid (xs[i]? = some px) := Lib.hid (by rw [List.getElem?_eq_getElem hi, hpx])
                  have HPY : Hid (ys[k]? = some py) := Lib.hid (by rw [List.getElem?_eq_getElem hk, hpy])
                  clear hi hk Hy1 hy1 hD hG xm ym hpx hpy
                  by_cases hnum : px.number = py.number
                  · have g0 : (px.number == py.number) = true := by simp [hnum]
                    have HN := Lib.hid hnum
                    clear hnum
                    go_wp2_with fail
                    have jq1 : decide (i < xs.length) = true := by have := HH.out.1; simp; omega
                    have jq2 : decide (k < ys.length) = true := by have := HH.out.2; simp; omega
                    refine wp_region_below (by kernel_rfl) (by kernel_rfl) ?_
                    repeat (
                      first
                      | go_big_quiet_skip
                      | (go_big_quiet_want
                         first
                         | (go_big_quiet_op; go_big_quiet_on)
                         | (apply Exists.intro
                            refine And.intro (fun W hW => ?_) ?_
                            · have gc := fun b o h => hW.cell (p := ⟨b, o, none⟩) h
                              unfold Oper.quietAt
                              go_simp
                              first
                              | fail
                              | exact rfl
                            go_big_quiet_on
                            simp only [Act.put, List.setIfInBounds_toArray, List.set_cons_zero, List.set_cons_succ])))
                    refine wpQuiet_nil ?_
                    intro w1 hb1
                    have hB := below_trans hB hb1 hB.size
                    have HG := Lib.hid (HG.out.below hb1)
                    have XM := Lib.hid (XM.out.below hb1)
                    have YM := Lib.hid (YM.out.below hb1)
                    have a1 := HG.out.1.1
                    have a2 := HG.out.1.2.1
                    have b1 := HG.out.row1 (i := i) (by have := Hik.out.1; omega)
                    have b2 := (HG.out.at1 (i := i) (k := k) (by have := Hik.out.1; omega) (by have := Hik.out.2; omega)).1
                    have b3 := (HG.out.at1 (i := i) (k := k) (by have := Hik.out.1; omega) (by have := Hik.out.2; omega)).2
                    have x0 := cell_up hb1 x0
                    have x1 := cell_up hb1 x1
                    have y0 := cell_up hb1 y0
                    have y3 := cell_up hb1 y3
                    have t1 := HG.out.row2 (i := i) (by have := HH.out.1; omega)
                    have t2 := (HG.out.at2 (i := i) (k := k) (by have := HH.out.1; omega) (by have := HH.out.2; omega)).1
                    have t3 := (HG.out.at2 (i := i) (k := k) (by have := HH.out.1; omega) (by have := HH.out.2; omega)).2
                    have HW := Lib.hid hb1
                    clear hb1
                    go_wp2_with fail
                    have l1 : (i : Int) < (xs.length : Int) + 1 := by have := HH.out.1; omega
                    have l2 : (k : Int) < (ys.length : Int) + 1 := by have := HH.out.2; omega
                    go_cut [] from 117 to 132 (fun wx => Below w.heap.size w wx ∧ Grids wx w.heap.size g1 e1 g2 e2 r1 r2 (xs.length + 1) (ys.length + 1) f (upd s i k (decide (px = py))))
                    case first =>
                      go_region_law (
                        go_simp
                        go_at_call 10
                        refine (same_spec _ L px py _ _ _ _ ?hx ?hy).mono ?_
                        case hx => exact XM.out.below (below_drew (Below.refl _ _))
                        case hy => exact YM.out.below (below_drew (Below.refl _ _))
                        rintro e w3 ⟨rfl, hb3⟩
                        have hB3 : Below w1.heap.size w1 w3 := (below_drew (Below.refl _ _)).trans hb3
                        have q2 := (HG.out.below hB3).1.2.1
                        have q3 := (HG.out.below hB3).row2 (i := i) (by have := HH.out.1; omega)
                        have q4 := ((HG.out.below hB3).at2 (i := i) (k := k) (by have := HH.out.1; omega) (by have := HH.out.2; omega)).1
                        have q5 := ((HG.out.below hB3).at2 (i := i) (k := k) (by have := HH.out.1; omega) (by have := HH.out.2; omega)).2)
                      all_goals
                        go_wp2_with fail
                        go_meet
                        case rel => exact ⟨(below_trans hB hB3 hB.size).setCell (p := ⟨r2 i, k, none⟩) (HG.out.ge2 (by have := HH.out.1; omega)) _, (HG.out.below hB3).store2 (by have := HH.out.1; omega) (by have := HH.out.2; omega) _⟩
                    case rest =>
                      clear hB a1 a2 b1 b2 b3 b4 b5 b6 x0 x1 y0 y3 t1 t2 t3
                      obtain ⟨hB, hG⟩ := hcut
                      have HG := Lib.hid hG
                      clear hG
                      have a1 := HG.out.1.1
                      have a2 := HG.out.1.2.1
                      have b1 := HG.out.row1 (i := i) (by have := Hik.out.1; omega)
                      have b2 := (HG.out.at1 (i := i) (k := k) (by have := Hik.out.1; omega) (by have := Hik.out.2; omega)).1
                      have b3 := (HG.out.at1 (i := i) (k := k) (by have := Hik.out.1; omega) (by have := Hik.out.2; omega)).2
                      have b5 := HG.out.row1 (i := i + 1) (by have := HH.out.1; omega)
                      obtain ⟨y5, hy5, Hy5, y50, y5N⟩ := HD.out.get (i2 := i + 1) (k2 := k + 1) (by omega) (by have := HH.out.1; omega) (by have := HH.out.2; omega) (.inl (by omega))
                      have b7 := (HG.out.at1 (i := i + 1) (k := k + 1) (by have := HH.out.1; omega) (by have := HH.out.2; omega)).1
                      rw [hy5] at b7
                      have HY5 := Lib.hid Hy5
                      clear Hy5 hy5
                      have t1 := HG.out.row2 (i := i) (by have := HH.out.1; omega)
                      have t2 := (HG.out.at2 (i := i) (k := k) (by have := HH.out.1; omega) (by have := HH.out.2; omega)).1
                      have hup : ∀ v, upd s i k v i k = v := fun v => by simp [upd]
                      rw [hup] at t2
                      by_cases hpp : px = py
                      · rw [decide_eq_true hpp] at t2
                        have HP := Lib.hid hpp
                        clear hpp hup
                        go_wp2_with fail
                        go_roundw
                        case rel => exact ⟨_, k, _, _, by omega, rfl, by omega, hB.setCell (p := ⟨r1 i, k, none⟩) (HG.out.ge1 (by have := Hik.out.1; omega)) _, HG.out.store1 (by have := Hik.out.1; omega) (by have := Hik.out.2; omega) _, HD.out.step _ (by rw [HC.out, if_pos HN.out, if_pos HP.out, ← Hy.out, ← HY2.out, ← HY5.out]; omega) (fun i2 k2 h => by simp [upd, h]) (fun h1 h2 _ => by simp [upd, getE HPX.out h1, getE HPY.out h2])⟩
                        case measure => simp [intOf] <;> omega
                      · rw [decide_eq_false hpp] at t2
                        have HP := Lib.hid hpp
                        clear hpp hup
                        go_wp2_with fail
                        go_roundw
                        case rel => exact ⟨_, k, _, _, by omega, rfl, by omega, hB.setCell (p := ⟨r1 i, k, none⟩) (HG.out.ge1 (by have := Hik.out.1; omega)) _, HG.out.store1 (by have := Hik.out.1; omega) (by have := Hik.out.2; omega) _, HD.out.step _ (by rw [HC.out, if_pos HN.out, if_neg HP.out, ← Hy.out, ← HY2.out, ← HY5.out]; omega) (fun i2 k2 h => by simp [upd, h]) (fun h1 h2 _ => by simp [upd, getE HPX.out h1, getE HPY.out h2])⟩
                        case measure => simp [intOf] <;> omega
                  · have g0 : (px.number == py.number) = false := by simp [hnum]
                    have HN := Lib.hid hnum
                    clear hnum
                    go_wp2_with fail
                    have jq1 : decide (i < xs.length) = true := by have := HH.out.1; simp; omega
                    have jq2 : decide (k < ys.length) = true := by have := HH.out.2; simp; omega
                    refine wp_region_below (by kernel_rfl) (by kernel_rfl) ?_
                    repeat (
                      first
                      | go_big_quiet_skip
                      | (go_big_quiet_want
                         first
                         | (go_big_quiet_op; go_big_quiet_on)
                         | (apply Exists.intro
                            refine And.intro (fun W hW => ?_) ?_
                            · have gc := fun b o h => hW.cell (p := ⟨b, o, none⟩) h
                              unfold Oper.quietAt
                              go_simp
                              first
                              | fail
                              | exact rfl
                            go_big_quiet_on
                            simp only [Act.put, List.setIfInBounds_toArray, List.set_cons_zero, List.set_cons_succ])))
                    refine wpQuiet_nil ?_
                    intro w1 hb1
                    have hB := below_trans hB hb1 hB.size
                    have HG := Lib.hid (HG.out.below hb1)
                    have a1 := HG.out.1.1
                    have a2 := HG.out.1.2.1
                    have b1 := HG.out.row1 (i := i) (by have := Hik.out.1; omega)
                    have b2 := (HG.out.at1 (i := i) (k := k) (by have := Hik.out.1; omega) (by have := Hik.out.2; omega)).1
                    have b3 := (HG.out.at1 (i := i) (k := k) (by have := Hik.out.1; omega) (by have := Hik.out.2; omega)).2
                    go_wp2_with fail
                    go_roundw
                    case rel => exact ⟨_, k, _, _, by omega, rfl, by omega, hB.setCell (p := ⟨r1 i, k, none⟩) (HG.out.ge1 (by have := Hik.out.1; omega)) _, HG.out.store1 (by have := Hik.out.1; omega) (by have := Hik.out.2; omega) _, HD.out.step _ (by rw [HC.out, if_neg HN.out, ← Hy.out, ← HY2.out]; omega) (fun _ _ _ => rfl) (fun h1 h2 h3 => absurd h3 (by rw [getE HPX.out h1, getE HPY.out h2]; exact HN.out))⟩
                    case measure => simp [intOf] <;> omega
                · have j4 : ¬ (k : Int) < (ys.length : Int) := by omega
                  have HH := Lib.hid (And.intro hi hk)
                  clear hi hk hD hG
                  go_wp2_with fail
                  have jq1 : decide (i < xs.length) = true := by have := HH.out.1; simp; omega
                  have jq2 : decide (k < ys.length) = false := by have := HH.out.2; simp; omega
                  refine wp_region_below (by kernel_rfl) (by kernel_rfl) ?_
                  repeat (
                    first
                    | go_big_quiet_skip
                    | (go_big_quiet_want
                       first
                       | (go_big_quiet_op; go_big_quiet_on)
                       | (apply Exists.intro
                          refine And.intro (fun W hW => ?_) ?_
                          · have gc := fun b o h => hW.cell (p := ⟨b, o, none⟩) h
                            unfold Oper.quietAt
                            go_simp
                            first
                            | fail
                            | exact rfl
                          go_big_quiet_on
                          simp only [Act.put, List.setIfInBounds_toArray, List.set_cons_zero, List.set_cons_succ])))
                  refine wpQuiet_nil ?_
                  intro w1 hb1
                  have hB := below_trans hB hb1 hB.size
                  have HG := Lib.hid (HG.out.below hb1)
                  have a1 := HG.out.1.1
                  have a2 := HG.out.1.2.1
                  have b1 := HG.out.row1 (i := i) (by have := Hik.out.1; omega)
                  have b2 := (HG.out.at1 (i := i) (k := k) (by have := Hik.out.1; omega) (by have := Hik.out.2; omega)).1
                  have b3 := (HG.out.at1 (i := i) (k := k) (by have := Hik.out.1; omega) (by have := Hik.out.2; omega)).2
                  go_wp2_with fail
                  go_roundw
                  case rel => exact ⟨_, k, _, _, by omega, rfl, by omega, hB.setCell (p := ⟨r1 i, k, none⟩) (HG.out.ge1 (by have := Hik.out.1; omega)) _, HG.out.store1 (by have := Hik.out.1; omega) (by have := Hik.out.2; omega) _, HD.out.step _ (by rw [cst_kn HH.out.1 HH.out.2, ← HY2.out]) (fun _ _ _ => rfl) (fun _ q => absurd q HH.out.2)⟩
                  case measure => simp [intOf] <;> omega
              · have j1 : ((i : Int) == (xs.length : Int)) = true := by simp; omega
                have j2 : ¬ (i : Int) < (xs.length : Int) := by omega
                by_cases hk : k < ys.length
                · have j3 : ((k : Int) == (ys.length : Int)) = false := by simp; omega
                  have j4 : (k : Int) < (ys.length : Int) := by omega
                  obtain ⟨y1, hy1, Hy1, y10, y1N⟩ := HD.out.get (i2 := i) (k2 := k + 1) (by omega) (by omega) (by omega) (.inr ⟨rfl, Nat.le_refl _⟩)
                  have b4 := (HG.out.at1 (i := i) (k := k + 1) (by omega) (by omega)).1
                  rw [hy1] at b4
                  have HH := Lib.hid (And.intro hi hk)
                  have Hy := Lib.hid Hy1
                  have k1 : (0 : Int) ≤ (k : Int) + 1 := by omega
                  clear hi hk Hy1 hy1 hD hG
                  go_wp2_with fail
                  have jq1 : decide (i < xs.length) = false := by have := HH.out.1; simp; omega
                  have jq2 : decide (k < ys.length) = true := by have := HH.out.2; simp; omega
                  refine wp_region_below (by kernel_rfl) (by kernel_rfl) ?_
                  repeat (
                    first
                    | go_big_quiet_skip
                    | (go_big_quiet_want
                       first
                       | (go_big_quiet_op; go_big_quiet_on)
                       | (apply Exists.intro
                          refine And.intro (fun W hW => ?_) ?_
                          · have gc := fun b o h => hW.cell (p := ⟨b, o, none⟩) h
                            unfold Oper.quietAt
                            go_simp
                            first
                            | fail
                            | exact rfl
                          go_big_quiet_on
                          simp only [Act.put, List.setIfInBounds_toArray, List.set_cons_zero, List.set_cons_succ])))
                  refine wpQuiet_nil ?_
                  intro w1 hb1
                  have hB := below_trans hB hb1 hB.size
                  have HG := Lib.hid (HG.out.below hb1)
                  have a1 := HG.out.1.1
                  have a2 := HG.out.1.2.1
                  have b1 := HG.out.row1 (i := i) (by have := Hik.out.1; omega)
                  have b2 := (HG.out.at1 (i := i) (k := k) (by have := Hik.out.1; omega) (by have := Hik.out.2; omega)).1
                  have b3 := (HG.out.at1 (i := i) (k := k) (by have := Hik.out.1; omega) (by have := Hik.out.2; omega)).2
                  go_wp2_with fail
                  go_roundw
                  case rel => exact ⟨_, k, _, _, by omega, rfl, by omega, hB.setCell (p := ⟨r1 i, k, none⟩) (HG.out.ge1 (by have := Hik.out.1; omega)) _, HG.out.store1 (by have := Hik.out.1; omega) (by have := Hik.out.2; omega) _, HD.out.step _ (by rw [cst_nk HH.out.1 HH.out.2, ← Hy.out]) (fun _ _ _ => rfl) (fun q => absurd q HH.out.1)⟩
                  case measure => simp [intOf] <;> omega
                · have j3 : ((k : Int) == (ys.length : Int)) = true := by simp; omega
                  have j4 : ¬ (k : Int) < (ys.length : Int) := by omega
                  have HH := Lib.hid (And.intro hi hk)
                  clear hi hk hD hG
                  go_wp2_with fail
                  have jq1 : decide (i < xs.length) = false := by have := HH.out.1; simp; omega
                  have jq2 : decide (k < ys.length) = false := by have := HH.out.2; simp; omega
                  refine wp_region_below (by kernel_rfl) (by kernel_rfl) ?_
                  repeat (
                    first
                    | go_big_quiet_skip
                    | (go_big_quiet_want
                       first
                       | (go_big_quiet_op; go_big_quiet_on)
                       | (apply Exists.intro
                          refine And.intro (fun W hW => ?_) ?_
                          · have gc := fun b o h => hW.cell (p := ⟨b, o, none⟩) h
                            unfold Oper.quietAt
                            go_simp
                            first
                            | fail
                            | exact rfl
                          go_big_quiet_on
                          simp only [Act.put, List.setIfInBounds_toArray, List.set_cons_zero, List.set_cons_succ])))
                  refine wpQuiet_nil ?_
                  intro w1 hb1
                  have hB := below_trans hB hb1 hB.size
                  have HG := Lib.hid (HG.out.below hb1)
                  have a1 := HG.out.1.1
                  have a2 := HG.out.1.2.1
                  have b1 := HG.out.row1 (i := i) (by have := Hik.out.1; omega)
                  have b2 := (HG.out.at1 (i := i) (k := k) (by have := Hik.out.1; omega) (by have := Hik.out.2; omega)).1
                  have b3 := (HG.out.at1 (i := i) (k := k) (by have := Hik.out.1; omega) (by have := Hik.out.2; omega)).2
                  go_wp2_with fail
                  go_roundw
                  case rel => exact ⟨_, k, _, _, by omega, rfl, by omega, hB.setCell (p := ⟨r1 i, k, none⟩) (HG.out.ge1 (by have := Hik.out.1; omega)) _, HG.out.store1 (by have := Hik.out.1; omega) (by have := Hik.out.2; omega) _, HD.out.step _ (cst_nn HH.out.1 HH.out.2).symm (fun _ _ _ => rfl) (fun q => absurd q HH.out.1)⟩
                  case measure => simp [intOf] <;> omega
end Go.Proofs.Ytfejkaemledipaa
