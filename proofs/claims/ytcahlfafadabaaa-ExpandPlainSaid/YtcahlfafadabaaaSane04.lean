/- The law's fixed example, and ExpandNil. -/
import Derived.Test.YtcahlfafadabaaaExp04
namespace Go.Proofs.Ytcahlfafadabaaa
open Go.RowKit

theorem fixed_spec (k st : Int) (nm : ByteArray) (w : World) : Calls Try.prog 15 #[.int .u8 k, .string nm, .int .i64 st] w fun e w' => e = .returned (.string ⟨#[51]⟩) ∧ w = w' := by
  go_enter Try.func15, Try.ntmps15
  go_wp2
  go_ret
  exact ⟨rfl, rfl⟩
def fixedLk (base : Nat) : Lk base where
  fid := 15
  first := #[]
  ans := fun _ => [51]
  Inv := fun _ _ T => T = []
  stab := fun h _ _ => h
  blocks := fun h b hb => by rw [h] at hb; cases hb
  ansLen := fun _ => by simp
  enters := enters_of Try.func15 (by kernel_rfl) rfl
  call := fun {W σ T} q nm _ h _ _ _ => (fixed_spec _ _ nm W).mono (by
    rintro e w' ⟨rfl, rfl⟩
    subst h
    exact ⟨_, [], rfl, rfl, rfl, Keep.refl _ _, fun b hb => by cases hb⟩)
theorem sane_res : resOf false (fun _ => [51]) [97, 92, 110, 120, 98] [] = ([97, 51, 98], 0, [⟨110, [120], 0⟩]) := by kernel_rfl
theorem bl_inj {a b : ByteArray} (h : bl a = bl b) : a = b := by
  obtain ⟨⟨a⟩⟩ := a
  obtain ⟨⟨b⟩⟩ := b
  unfold bl at h
  simp at h
  rw [h]
set_option maxHeartbeats 1600000 in
theorem sane_spec (w : World) : Calls Try.prog 8 #[] w fun e w' => e = .returned (.bool true) ∧ Below w.heap.size w w' := by
  go_enter Try.func8, Try.ntmps8
  go_wp2_with fail
  refine (Expand_spec (fixedLk 0) ⟨#[97, 92, 110, 120, 98]⟩ false w [] [] rfl (Nat.zero_le _) (Nat.zero_le _)).mono ?_
  rintro e w1 ⟨t, T', rfl, ht, hK, _, _⟩
  have hr : resOf false (fixedLk 0).ans (bl ⟨#[97, 92, 110, 120, 98]⟩) [] = ([97, 51, 98], 0, [⟨110, [120], 0⟩]) := sane_res
  rw [hr] at ht ⊢
  obtain rfl : t = ⟨#[97, 51, 98]⟩ := bl_inj ht
  have HB := Lib.hid hK.below
  clear hK ht hr
  go_wp2_with fail
  go_ret
  exact ⟨rfl, HB.out⟩
set_option maxHeartbeats 1600000 in
theorem nil_law (s : ByteArray) (cp : Bool) (w : World) : Calls Try.prog 5 #[.string s, .bool cp] w fun e w' => e = .returned (.bool true) ∧ Below w.heap.size w w' := by
  go_enter Try.func5, Try.ntmps5
  go_wp2_with fail
  refine (nil_spec s cp _).mono ?_
  rintro e w1 ⟨rfl, hb⟩
  have HB := Lib.hid hb
  clear hb
  go_wp2_with fail
  refine (sane_spec _).mono ?_
  rintro e w2 ⟨rfl, hb2⟩
  have HB2 := Lib.hid (HB.out.trans (hb2.mono HB.out.size))
  clear hb2
  go_wp2_with fail
  go_ret
  exact ⟨rfl, HB2.out⟩
end Go.Proofs.Ytcahlfafadabaaa
