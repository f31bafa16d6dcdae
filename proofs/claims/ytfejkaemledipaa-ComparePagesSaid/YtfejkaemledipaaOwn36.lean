/- Marks with memory of their own: the program's copy and the document's. -/
import Derived.Test.YtfejkaemledipaaClone36
namespace Go.Proofs.Ytfejkaemledipaa
open Go.RowKit

/-- The cell of a mark's numbers, in a row of the call's own. -/
theorem own_mark8 {e : TypeId} {w : World} {base : Nat} {L : List Nat} {g n c : Nat} {xs : List Mark} (h : OwnS rMark e w base L (.slice (some ⟨g, 0, none⟩) n c) xs) {i : Nat} (hi : i < xs.length) :
    ∃ A8 c8, w.cell? ⟨g, i * 9 + 8, none⟩ = some (.slice A8 xs[i].n.length c8) ∧ Sl (Rp.int .i64) w (g :: L) (.slice A8 xs[i].n.length c8) xs[i].n := by
  obtain ⟨cs, hk, hc⟩ := h.get hi
  obtain ⟨v, rfl, hv⟩ := rMark_open hk
  obtain ⟨A8, c8, rfl⟩ := hv.val
  exact ⟨A8, c8, hc 8 _ rfl, hv⟩
/-- The numbers of one mark lie elsewhere. -/
theorem own_mark_set {e : TypeId} {w : World} {base : Nat} {L : List Nat} {g n c : Nat} {xs : List Mark} (h : OwnS rMark e w base L (.slice (some ⟨g, 0, none⟩) n c) xs) {i : Nat} (hi : i < xs.length) (u : Value) (hu : Sl (Rp.int .i64) w (g :: L) u xs[i].n) :
    OwnS rMark e (w.setCell ⟨g, i * 9 + 8, none⟩ u) base L (.slice (some ⟨g, 0, none⟩) n c) xs := by
  have := h.setCell (j := 8) hi (by decide) u xs[i] (fun cs hk => by
    obtain ⟨v, rfl, _⟩ := rMark_open hk
    exact rMark_mk hu)
  rwa [List.set_getElem_self] at this

set_option maxHeartbeats 1600000 in
theorem own_spec (w : World) (L : List Nat) (A : Option Addr) (c : Nat) (xs : List Mark) (h : Sl rMark w L (.slice A xs.length c) xs) (hL : ∀ b ∈ L, b < w.heap.size) (hn : xs.length ≤ 1000000) (hN : ∀ m ∈ xs, m.n.length ≤ 17592186044416) :
    Calls Try.prog 13 #[.slice A xs.length c] w fun e w' => ∃ A' c', e = .returned (.slice A' xs.length c') ∧ OwnS rMark 45 w' w.heap.size L (.slice A' xs.length c') xs ∧ Below w.heap.size w w' := by
  have HL := Lib.hid hL
  have HN := Lib.hid hN
  clear hN hL
  go_enter Try.func13, Try.ntmps13
  go_wp2_with fail
  refine (cloneMarks w L A c xs h HL.out hn).mono ?_
  rintro e w0 ⟨A0, c0, rfl, hO0, hB0⟩
  have HO0 := Lib.hid hO0
  clear hO0
  go_wp2_with fail
  go_loopw [9] (fun i wr => ∃ k : Nat, k ≤ xs.length ∧ i = .int .i64 k ∧ Below w.heap.size w wr ∧ OwnS rMark 45 wr w.heap.size L (.slice A0 xs.length c0) xs) (fun i _ => xs.length - (intOf i).toNat)
  case atStart => exact ⟨0, Nat.zero_le _, rfl, hB0, HO0.out⟩
  case round =>
    obtain ⟨k, hk, rfl, hB, hO⟩ := hrel
    by_cases hlt : k < xs.length
    · obtain ⟨g, rfl, hg, hgs⟩ := hO.addr (by omega)
      obtain ⟨A8, c8, e8, hs8⟩ := own_mark8 hO hlt
      have hx : xs[k].n.length ≤ 17592186044416 := HN.out _ (List.getElem_mem _)
      have HO := Lib.hid hO
      have HS := Lib.hid hs8
      clear hO hs8
      go_wp2_with fail
      refine (cloneInts wr (g :: L) A8 c8 xs[k].n HS.out (fun b hb => by rcases List.mem_cons.1 hb with rfl | hb; exact hgs; have := HL.out b hb; have := hB.size; omega) hx).mono ?_
      rintro e w1 ⟨A', c', rfl, hO1, hb1⟩
      have e8' := cell_up hb1 e8
      have hfz : w1.frozen? ⟨g, k * 9 + 8, none⟩ = false := (HO.out.below hb1).frozen
      have HO1 := Lib.hid hO1
      clear hO1
      go_wp2_with fail
      go_roundw
      case rel => exact ⟨k + 1, by omega, by go_num, (hB.trans (hb1.mono hB.size)).setCell hg _, own_mark_set (HO.out.below hb1) hlt _ HO1.out.sl⟩
      case measure => simp [intOf]; omega
    · have HO := Lib.hid hO
      clear hO
      go_wp2_with fail
      go_ret
      exact ⟨A0, c0, rfl, HO.out, hB⟩

set_option maxHeartbeats 1600000 in
theorem refOwn_spec (w : World) (L : List Nat) (A : Option Addr) (c : Nat) (xs : List Mark) (h : Sl rMark w L (.slice A xs.length c) xs) (hL : ∀ b ∈ L, b < w.heap.size) (hn : xs.length ≤ 1000000) (hN : ∀ m ∈ xs, m.n.length ≤ 17592186044416) :
    Calls Try.prog 14 #[.slice A xs.length c] w fun e w' => ∃ A' c', e = .returned (.slice A' xs.length c') ∧ OwnS rMark 45 w' w.heap.size L (.slice A' xs.length c') xs ∧ Below w.heap.size w w' := by
  have HL := Lib.hid hL
  have HN := Lib.hid hN
  have H := Lib.hid h
  clear hN hL h
  go_enter Try.func14, Try.ntmps14
  go_wp2_with (refine wpList_pushAll rMark rfl _ _ _ rfl w.heap.size 45 _ 112 L [] xs _ _ Try.underlying22 infoMark rfl (by decide) rfl ?hO rfl ?hy ?hl ?h63 ?hb ?hL ?_)
  case hO => exact own_empty _ _ _ _ HL.out
  case hy => exact H.out.into ((Below.refl _ _).alloc (Nat.le_refl _) _) (fun b hb => Nat.le_of_eq (List.mem_singleton.1 hb).symm)
  case hl => simp; omega
  case h63 => simp; omega
  case hb => simp
  case hL => intro b hb; have := HL.out b hb; simp; omega
  intro A0 c0 w1 hO0 hg hfr hat
  have hB0 : Below w.heap.size w w1 := hfr _ _ ((Below.refl _ _).alloc (Nat.le_refl _) _) (Nat.le_refl _)
  try simp only [List.length_nil, Nat.zero_add, List.nil_append] at hO0
  clear hg hfr hat
  have HO0 := Lib.hid hO0
  clear hO0
  go_wp2_with fail
  go_loopw [4] (fun i wr => ∃ k : Nat, k ≤ xs.length ∧ i = .int .i64 k ∧ Below w.heap.size w wr ∧ OwnS rMark 45 wr w.heap.size L (.slice A0 xs.length c0) xs) (fun i _ => xs.length - (intOf i).toNat)
  case atStart => exact ⟨0, Nat.zero_le _, rfl, hB0, HO0.out⟩
  case round =>
    obtain ⟨k, hk, rfl, hB, hO⟩ := hrel
    by_cases hlt : k < xs.length
    · obtain ⟨g, rfl, hg, hgs⟩ := hO.addr (by omega)
      obtain ⟨A8, c8, e8, hs8⟩ := own_mark8 hO hlt
      have hx : xs[k].n.length ≤ 17592186044416 := HN.out _ (List.getElem_mem _)
      have hL1 : ∀ b ∈ g :: L, b < wr.heap.size := fun b hb => by rcases List.mem_cons.1 hb with rfl | hb; exact hgs; have := HL.out b hb; have := hB.size; omega
      have HL1 := Lib.hid hL1
      have HO := Lib.hid hO
      have HS := Lib.hid hs8
      have hba : Below wr.heap.size wr (wr.alloc (.cells #[] 3)) := (Below.refl _ _).alloc (Nat.le_refl _) _
      clear hO hs8 hL1
      go_wp2_with (refine wpList_pushAll (Rp.int .i64) rfl _ _ _ rfl wr.heap.size 3 _ 8 (g :: L) [] xs[k].n _ _ Try.underlying43 infoInt rfl (by decide) rfl ?hO rfl ?hy ?hl ?h63 ?hb ?hL ?_)
      case hO => exact own_empty _ _ _ _ HL1.out
      case hy => exact HS.out.into hba (fun b hb => Nat.le_of_eq (List.mem_singleton.1 hb).symm)
      case hl => simp; omega
      case h63 => simp; omega
      case hb => simp
      case hL => intro b hb; have := HL1.out b hb; simp; omega
      intro A' c' w2 hO1 hgr hfr hat
      have hb1 : Below wr.heap.size wr w2 := hfr _ _ hba (Nat.le_refl _)
      try simp only [List.length_nil, Nat.zero_add, List.nil_append] at hO1
      clear hgr hfr hat
      have e8' := cell_up hb1 e8
      have hfz : w2.frozen? ⟨g, k * 9 + 8, none⟩ = false := (HO.out.below hb1).frozen
      have HO1 := Lib.hid hO1
      clear hO1 hba
      go_wp2_with fail
      go_roundw
      case rel => exact ⟨k + 1, by omega, by go_num, (hB.trans (hb1.mono hB.size)).setCell hg _, own_mark_set (HO.out.below hb1) hlt _ HO1.out.sl⟩
      case measure => simp [intOf]; omega
    · have HO := Lib.hid hO
      clear hO
      go_wp2_with fail
      go_ret
      exact ⟨A0, c0, rfl, HO.out, hB⟩
end Go.Proofs.Ytfejkaemledipaa
