/- bits; ExpandBits. -/
import Derived.Test.YtcahlfafadabaaaDoes04
namespace Go.Proofs.Ytcahlfafadabaaa
open Go.RowKit

def parts : List ByteArray := [⟨#[97]⟩, ⟨#[92, 110, 120]⟩, ⟨#[92, 110, 43, 120]⟩, ⟨#[92, 42, 40, 97, 98]⟩, ⟨#[92, 42, 91, 110, 97, 109, 101, 93]⟩, ⟨#[92, 36, 49]⟩, ⟨#[92, 92]⟩, ⟨#[92, 101]⟩, ⟨#[92, 119, 39, 98, 39]⟩, ⟨#[92, 119, 124, 92, 110, 120, 124]⟩, ⟨#[92, 46]⟩, ⟨#[92, 34]⟩, ⟨#[32]⟩, ⟨#[92]⟩, ⟨#[40]⟩, ⟨#[91]⟩, ⟨#[93]⟩, ⟨#[92, 110]⟩, ⟨#[92, 42]⟩, ⟨#[92, 36, 40, 49, 48]⟩, ⟨#[92, 119]⟩, ⟨#[39]⟩, ⟨#[92, 110, 45, 40, 122, 122]⟩, ⟨#[120]⟩]
theorem parts_le : ∀ r, r < 24 → ∃ p, ((#[.string ⟨#[97]⟩, .string ⟨#[92, 110, 120]⟩, .string ⟨#[92, 110, 43, 120]⟩, .string ⟨#[92, 42, 40, 97, 98]⟩, .string ⟨#[92, 42, 91, 110, 97, 109, 101, 93]⟩, .string ⟨#[92, 36, 49]⟩, .string ⟨#[92, 92]⟩, .string ⟨#[92, 101]⟩, .string ⟨#[92, 119, 39, 98, 39]⟩, .string ⟨#[92, 119, 124, 92, 110, 120, 124]⟩, .string ⟨#[92, 46]⟩, .string ⟨#[92, 34]⟩, .string ⟨#[32]⟩, .string ⟨#[92]⟩, .string ⟨#[40]⟩, .string ⟨#[91]⟩, .string ⟨#[93]⟩, .string ⟨#[92, 110]⟩, .string ⟨#[92, 42]⟩, .string ⟨#[92, 36, 40, 49, 48]⟩, .string ⟨#[92, 119]⟩, .string ⟨#[39]⟩, .string ⟨#[92, 110, 45, 40, 122, 122]⟩, .string ⟨#[120]⟩] : Array Value))[r]? = some (.string p) ∧ p.size ≤ 8 := by
  intro r hr
  match r, hr with
  | 0, _ => exact ⟨_, rfl, by decide⟩
  | 1, _ => exact ⟨_, rfl, by decide⟩
  | 2, _ => exact ⟨_, rfl, by decide⟩
  | 3, _ => exact ⟨_, rfl, by decide⟩
  | 4, _ => exact ⟨_, rfl, by decide⟩
  | 5, _ => exact ⟨_, rfl, by decide⟩
  | 6, _ => exact ⟨_, rfl, by decide⟩
  | 7, _ => exact ⟨_, rfl, by decide⟩
  | 8, _ => exact ⟨_, rfl, by decide⟩
  | 9, _ => exact ⟨_, rfl, by decide⟩
  | 10, _ => exact ⟨_, rfl, by decide⟩
  | 11, _ => exact ⟨_, rfl, by decide⟩
  | 12, _ => exact ⟨_, rfl, by decide⟩
  | 13, _ => exact ⟨_, rfl, by decide⟩
  | 14, _ => exact ⟨_, rfl, by decide⟩
  | 15, _ => exact ⟨_, rfl, by decide⟩
  | 16, _ => exact ⟨_, rfl, by decide⟩
  | 17, _ => exact ⟨_, rfl, by decide⟩
  | 18, _ => exact ⟨_, rfl, by decide⟩
  | 19, _ => exact ⟨_, rfl, by decide⟩
  | 20, _ => exact ⟨_, rfl, by decide⟩
  | 21, _ => exact ⟨_, rfl, by decide⟩
  | 22, _ => exact ⟨_, rfl, by decide⟩
  | 23, _ => exact ⟨_, rfl, by decide⟩
  | n + 24, h => omega
theorem parts_cell (w : World) (r : Nat) (hr : r < 24) : ∃ p, (w.alloc (.cells #[.string ⟨#[97]⟩, .string ⟨#[92, 110, 120]⟩, .string ⟨#[92, 110, 43, 120]⟩, .string ⟨#[92, 42, 40, 97, 98]⟩, .string ⟨#[92, 42, 91, 110, 97, 109, 101, 93]⟩, .string ⟨#[92, 36, 49]⟩, .string ⟨#[92, 92]⟩, .string ⟨#[92, 101]⟩, .string ⟨#[92, 119, 39, 98, 39]⟩, .string ⟨#[92, 119, 124, 92, 110, 120, 124]⟩, .string ⟨#[92, 46]⟩, .string ⟨#[92, 34]⟩, .string ⟨#[32]⟩, .string ⟨#[92]⟩, .string ⟨#[40]⟩, .string ⟨#[91]⟩, .string ⟨#[93]⟩, .string ⟨#[92, 110]⟩, .string ⟨#[92, 42]⟩, .string ⟨#[92, 36, 40, 49, 48]⟩, .string ⟨#[92, 119]⟩, .string ⟨#[39]⟩, .string ⟨#[92, 110, 45, 40, 122, 122]⟩, .string ⟨#[120]⟩] 9)).cell? ⟨w.heap.size, r, none⟩ = some (.string p) ∧ p.size ≤ 8 := by
  obtain ⟨p, h1, h2⟩ := parts_le r hr
  refine ⟨p, ?_, h2⟩
  rw [cellOf (fresh_blk w _)]
  exact h1
def BitsPost (k : Nat) (w : World) (e : Ending) (w' : World) : Prop := ∃ t : ByteArray, e = .returned (.string t) ∧ t.size ≤ 8 * k ∧ Below w.heap.size w w'
theorem int_cell {k : IntKind} {w : World} {L : List Nat} {A : Option Addr} {n c : Nat} {xs : List Int} (h : Sl (Rp.int k) w L (.slice A n c) xs) {i : Nat} (hi : i < xs.length) : ∃ b o, A = some ⟨b, o, none⟩ ∧ w.cell? ⟨b, o + i, none⟩ = some (.int k xs[i]) := by
  obtain ⟨b, o, rfl, _, cs, hk, hc⟩ := h.get hi
  have := hc 0 (.int k xs[i]) (by rw [hk]; rfl)
  simp [Rp.int, Rp.scalar] at this
  exact ⟨b, o, rfl, this⟩
set_option maxHeartbeats 1600000 in
theorem bits_spec (w : World) (NA : Option Addr) (n nc : Nat) (l : List Int) (hA : Sl (Rp.int .u8) w [] (.slice NA n nc) l) (hx : ∀ x ∈ l, 0 ≤ x ∧ x ≤ 255) (hn : l.length ≤ 1000) :
    Calls Try.prog 10 #[.slice NA n nc] w (BitsPost l.length w) := by
  have e1 := hA.len_eq
  subst e1
  have HA := Lib.hid hA
  clear hA
  go_enter Try.func10, Try.ntmps10
  go_wp2_with fail
  go_loopw [3, 4] (fun v i wr => Below w.heap.size w wr ∧ ∃ (k : Nat) (t : ByteArray), k ≤ l.length ∧ v = .string t ∧ i = .int .i64 k ∧ t.size ≤ 8 * k) (fun _ i _ => l.length - (intOf i).toNat)
  case atStart => exact ⟨Below.refl _ _, 0, _, Nat.zero_le _, rfl, rfl, Nat.le_refl _⟩
  case round =>
    obtain ⟨hB, k, t, hk, rfl, rfl, ht⟩ := hrel
    by_cases hlt : k < l.length
    · obtain ⟨b1, o1, rfl, p1⟩ := int_cell (HA.out.below hB) hlt
      have hxx := hx _ (List.getElem_mem hlt)
      generalize l[k] = x at *
      obtain ⟨r, hr⟩ : ∃ r : Nat, x.tmod 24 = (r : Int) := ⟨(x.tmod 24).toNat, by have := Int.tmod_nonneg (a := x) 24 (by omega); omega⟩
      have hr24 : r < 24 := by have := Int.tmod_lt_of_pos x (b := 24) (by omega); omega
      obtain ⟨pt, hpc, hps⟩ := parts_cell wr r hr24
      have i1 : (k : Int) < (l.length : Int) := by omega
      have i3 : (0 : Int) ≤ (k : Int) := by omega
      have i4 : (r : Int) < 24 := by omega
      have i5 : (0 : Int) ≤ (r : Int) := by omega
      have hx0 := hxx.1
      have hx1 := hxx.2
      have p1' := cell_up ((Below.refl wr.heap.size wr).alloc (Nat.le_refl _) (.cells #[.string ⟨#[97]⟩, .string ⟨#[92, 110, 120]⟩, .string ⟨#[92, 110, 43, 120]⟩, .string ⟨#[92, 42, 40, 97, 98]⟩, .string ⟨#[92, 42, 91, 110, 97, 109, 101, 93]⟩, .string ⟨#[92, 36, 49]⟩, .string ⟨#[92, 92]⟩, .string ⟨#[92, 101]⟩, .string ⟨#[92, 119, 39, 98, 39]⟩, .string ⟨#[92, 119, 124, 92, 110, 120, 124]⟩, .string ⟨#[92, 46]⟩, .string ⟨#[92, 34]⟩, .string ⟨#[32]⟩, .string ⟨#[92]⟩, .string ⟨#[40]⟩, .string ⟨#[91]⟩, .string ⟨#[93]⟩, .string ⟨#[92, 110]⟩, .string ⟨#[92, 42]⟩, .string ⟨#[92, 36, 40, 49, 48]⟩, .string ⟨#[92, 119]⟩, .string ⟨#[39]⟩, .string ⟨#[92, 110, 45, 40, 122, 122]⟩, .string ⟨#[120]⟩] 9)) p1
      obtain ⟨t2, ht2⟩ : ∃ t2, t ++ pt = t2 := ⟨_, rfl⟩
      have ht2s : t2.size ≤ 8 * (k + 1) := by rw [← ht2, ← bl_len, bl_app, List.length_append, bl_len, bl_len]; omega
      have HT2 := Lib.hid ht2s
      have hts : t.size ≤ 8000 := by omega
      have HB := Lib.hid hB
      clear hB ht2s hxx
      go_wp2_with fail
      go_roundw
      case rel => exact ⟨HB.out.alloc HB.out.size _, k + 1, t2, by omega, rfl, by go_num, HT2.out⟩
      case measure => simp [intOf]; omega
    · have hk' : k = l.length := by omega
      subst hk'
      have i1 : ¬ (l.length : Int) < (l.length : Int) := by omega
      go_wp2_with fail
      go_ret
      exact ⟨t, rfl, ht, hB⟩
end Go.Proofs.Ytcahlfafadabaaa
