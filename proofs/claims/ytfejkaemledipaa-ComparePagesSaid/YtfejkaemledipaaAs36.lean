/- The conversion of pages for the document's functions. -/
import Derived.Test.YtfejkaemledipaaEq36e
import Derived.Test.YtfejkaemledipaaOwn
namespace Go.Proofs.Ytfejkaemledipaa
open Go.RowKit

theorem infoRPage : (Try.prog.info? 35).map (fun i => (i.zero, i.size, i.bytes)) = some (some (.agg #[.int .i64 0, .slice none 0 0]), 2, 32) := by kernel_rfl
theorem take_snoc {α : Type} {xs : List α} {k : Nat} (h : k < xs.length) : xs.take (k + 1) = xs.take k ++ [xs[k]] := List.take_succ_eq_append_getElem h

set_option maxHeartbeats 1600000 in
theorem as_spec (w : World) (L : List Nat) (A : Option Addr) (c : Nat) (xs : List Page) (h : Sl rPage w L (.slice A xs.length c) xs) (hL : ∀ b ∈ L, b < w.heap.size) (hn : xs.length ≤ 1000) :
    Calls Try.prog 6 #[.slice A xs.length c] w fun e w' => ∃ v, e = .returned v ∧ Sl rPage w' L v xs ∧ Below w.heap.size w w' := by
  go_enter Try.func6, Try.ntmps6
  go_wp2
  go_loopw [3, 4] (fun v i wr => ∃ (k : Nat) (r : Value), r = v ∧ k ≤ xs.length ∧ i = .int .i64 k ∧ Below w.heap.size w wr ∧ OwnS rPage 35 wr w.heap.size L r (xs.take k)) (fun _ i _ => xs.length - (intOf i).toNat)
  case atStart => exact ⟨0, _, rfl, Nat.zero_le _, rfl, Below.refl _ _, OwnS.nil _ _ _ _ _⟩
  case round =>
    obtain ⟨k, v, rfl, hk, rfl, hB, hO⟩ := hrel
    by_cases hlt : k < xs.length
    · obtain ⟨b1, o1, A1, c1, rfl, l1, n1, e0, e1⟩ := page_cells h hlt
      have E0 := Lib.hid e0
      have E1 := Lib.hid e1
      replace e0 := cell_up hB e0
      replace e1 := cell_up hB e1
      have hS := take_snoc hlt
      generalize hx : xs[k] = x at *
      have HS := Lib.hid hS
      have N1 := Lib.hid n1
      have HO := Lib.hid hO
      have hlen : (xs.take k).length = k := by simp; omega
      have Hlen := Lib.hid hlen
      clear hS n1 hO hx hlen
      have i1 : (k : Int) < (xs.length : Int) := by omega
      have i0 : (0 : Int) ≤ (k : Int) := by omega
      go_wp2
      go_region_held3 (fun w' => w'.cell? ⟨b1, o1 + k * 2, none⟩ = some (.int .i64 x.number) ∧ w'.cell? ⟨b1, o1 + k * 2 + 1, none⟩ = some (.slice A1 x.marks.length c1)) (first | go_keep | exact ⟨cell_up (hfr _ _ (below_drew (hB.alloc hB.size _)) (Nat.le_refl _)) E0.out, cell_up (hfr _ _ (below_drew (hB.alloc hB.size _)) (Nat.le_refl _)) E1.out⟩)
        ((refine step_push rPage (by rfl) _ _ _ (by rfl) w.heap.size 35 _ 32 L (xs.take k) x [.int .i64 x.number, .slice A1 x.marks.length c1] v wr.heap.size Try.underlying28 infoRPage (by rfl) (by decide) (by rfl) ?hO (by rfl) ?hc ?hy ?hl ?h63 ?hb ?hL ?_
          case hO => exact HO.out.below (below_drew ((Below.refl _ _).alloc (Nat.le_refl _) _))
          case hc => exact new_cells wr _ _
          case hy => exact rPage_mk (N1.out.into (below_drew (hB.alloc hB.size _)) HO.out.blk_ge)
          case hl => rw [Hlen.out]; omega
          case h63 => rw [Hlen.out]; omega
          case hb => simp; have := hB.size; omega
          case hL => intro b hb; have := hL b hb; have := hB.size; simp; omega
          intro g cap w1 hO1 hgrow hfr hat hlt1))
      have hB1 : Below w.heap.size w w1 := hfr _ _ (below_drew (hB.alloc hB.size _)) (Nat.le_refl _)
      rw [Hlen.out, ← HS.out] at hO1
      have HO1 := Lib.hid hO1
      clear hO1 hfr hgrow hat hlt1
      go_wp2
      go_roundw
      case rel => exact ⟨k + 1, _, rfl, by omega, by go_num, hB1, HO1.out⟩
      case measure => simp [intOf]; omega
    · have hk' : k = xs.length := by omega
      rw [hk', List.take_length] at hO
      have HO := Lib.hid hO
      clear hO hk'
      go_wp2
      go_ret
      exact ⟨v, rfl, HO.out.sl, hB⟩
end Go.Proofs.Ytfejkaemledipaa
