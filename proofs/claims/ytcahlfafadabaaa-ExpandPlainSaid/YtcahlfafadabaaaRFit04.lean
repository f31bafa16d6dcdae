/- The reference's IsLine, Expand. -/
import Derived.Test.YtcahlfafadabaaaRExp04
import Derived.Test.YtcahlfafadabaaaExp04
namespace Go.Proofs.Ytcahlfafadabaaa
open Go.RowKit

theorem isline_spec (s : ByteArray) (w : World) (hs : s.size ≤ 1000000) : Calls Try.prog 12 #[.string s] w fun e w' => e = .returned (.bool (fitsP (bl s))) ∧ w = w' := by
  go_enter Try.func12, Try.ntmps12
  go_wp2_with fail
  go_loopw [3] (fun v wr => wr = w ∧ ∃ (k : Nat), k ≤ s.size ∧ v = .int .i64 k ∧ ((bl s).take k).contains 10 = false) (fun v _ => s.size - (intOf v).toNat)
  case atStart => exact ⟨rfl, 0, Nat.zero_le _, rfl, rfl⟩
  case round =>
    obtain ⟨rfl, k, hk, rfl, ha⟩ := hrel
    by_cases hlt : k < s.size
    · have hltb : k < (bl s).length := by rw [bl_len]; exact hlt
      obtain ⟨hi, hg⟩ := bl_get (s := s) (i := k) (c := (bl s)[k]) (List.getElem?_eq_getElem hltb)
      have HT := Lib.hid (take_snoc hltb)
      have HM : Hid ((bl s)[k] ∈ bl s) := Lib.hid (List.getElem_mem hltb)
      have HA := Lib.hid ha
      generalize (bl s)[k] = c at *
      have i1 : (k : Int) < (s.size : Int) := by omega
      have i3 : (0 : Int) ≤ (k : Int) := by omega
      clear ha
      cases q10 : ((c.toNat : Int) == 10) with
      | true =>
        have HF : Hid (fitsP (bl s) = false) := Lib.hid (by
          have hc : c = 10 := (byteEq (n := 10) (by omega)).2 q10
          have : (bl s).contains 10 = true := by rw [← hc]; simpa using HM.out
          unfold fitsP; rw [this]; simp)
        go_wp2_with fail
        go_ret
        exact ⟨ret_bool (by rw [HF.out]), rfl⟩
      | false =>
        have HN : Hid ((10 == c) = false) := Lib.hid (by
          rw [beq_eq_false_iff_ne]
          exact fun e => (byteNe (n := 10) (by omega)).2 q10 e.symm)
        go_wp2_with fail
        go_roundw
        case rel => exact ⟨by trivial, k + 1, by omega, by go_num, by rw [HT.out, List.contains_eq_any_beq, List.any_append, ← List.contains_eq_any_beq, HA.out]; simp only [List.any_cons, List.any_nil, HN.out]; rfl⟩
        case measure => simp [intOf]; omega
    · have hk' : k = (bl s).length := by rw [bl_len]; omega
      rw [hk', List.take_length] at ha
      have i1 : ¬ (k : Int) < (s.size : Int) := by omega
      have HF : Hid (fitsP (bl s) = decide ((s.size : Int) ≤ 2000)) := Lib.hid (by unfold fitsP; rw [ha, bl_len]; simp; omega)
      clear ha hk'
      go_wp2_with fail
      go_ret
      exact ⟨ret_bool (by rw [HF.out]), rfl⟩
/-- What the reference's Expand tells. -/
def RExpPost (base : Nat) (W0 : World) (A : List ByteArray) (g : Nat) (W : World) (T : List Nat) (r : Bs × Int × List AskR) (e : Ending) (W' : World) : Prop :=
  ∃ T' : List Nat, e = .returned (.tuple #[.string (ba r.1), .int .i64 r.2.1]) ∧ TelInv 38 base W0 A g W' r.2.2 T' ∧ Keep T W W' ∧ ∀ b ∈ T', b ∈ T ∨ W.heap.size ≤ b
set_option maxHeartbeats 1600000 in
theorem RExpand_spec (base : Nat) (W0 : World) (A : List ByteArray) (g : Nat) (hA : ∀ a ∈ A, a.size ≤ 100000) (s : ByteArray) (cp : Bool) (w : World) (σ : List AskR) (T : List Nat) (hs : s.size ≤ 1000000) (hI : TelInv 38 base W0 A g w σ T) (hbase : base ≤ w.heap.size) (hσ : σ.length ≤ 500) :
    Calls Try.prog 16 #[.pointer (some ⟨g, 0, none⟩), .string s, .bool cp] w (RExpPost base W0 A g w T (resOf cp (ansOf A) (bl s) σ)) := by
  have HI := Lib.hid hI
  clear hI
  go_enter Try.func16, Try.ntmps16
  go_wp2_with fail
  refine (isline_spec s _ hs).mono ?_
  rintro e w1 ⟨rfl, rfl⟩
  cases hf : fitsP (bl s) with
  | false =>
    have HR : Hid (resOf cp (ansOf A) (bl s) σ = ([], 1, σ)) := Lib.hid (by unfold resOf; rw [hf]; rfl)
    clear hf
    go_wp2_with fail
    go_ret2
    rw [HR.out]
    exact ⟨T, rfl, HI.out, Keep.refl _ _, fun b hb => .inl hb⟩
  | true =>
    have hl : s.size ≤ 2000 := by unfold fitsP at hf; simp at hf; rw [← bl_len]; exact hf.1
    have HR : Hid (resOf cp (ansOf A) (bl s) σ = match exF cp (ansOf A) BIG 500 (bl s) [] σ with
      | .done out _ σ' => (out, 0, σ')
      | .fail σ' => ([], 2, σ')) := Lib.hid (by unfold resOf; rw [hf]; rfl)
    have hT := Lib.hid (HI.out.lt (by decide))
    have hB : Below w.heap.size w (w.alloc (.cells #[.int .i64 500] 3)) := (Below.refl _ _).alloc (Nat.le_refl _) _
    have HI1 := Lib.hid (HI.out.below (by decide) hB)
    have HC : Hid (Cnt w.heap.size (500 : Nat) (w.alloc (.cells #[.int .i64 500] 3))) := Lib.hid (fresh_blk w _)
    have HB := Lib.hid hB
    clear hf hB
    go_wp2_with fail
    refine (rexpand_spec base W0 A g hA cp BIG 500 s _ σ T w.heap.size (by unfold BIG; omega) (by unfold mu BIG; rw [bl_len]; omega) (Nat.le_refl _) (by omega) HC.out HI1.out (fun h => by have := hT.out _ h; omega) hbase (by omega)).mono ?_
    rintro e w3 ⟨hK, T', hp, hT', hc⟩
    have hKw : Keep T w w3 := (((Keep.refl T w).of_below HB.out (Nat.le_refl _)).trans hK (fun b hb => by
      rcases List.mem_cons.1 hb with rfl | hb
      · exact .inr (Nat.le_refl _)
      · exact .inl hb))
    have hT2 : ∀ b ∈ T', b ∈ T ∨ w.heap.size ≤ b := fun b hb => (hT' b hb).imp id (fun h => by simp at h; omega)
    rcases hc with ⟨out, l, σ', hr, rfl, hC, hI⟩ | ⟨σ', v, hr, rfl, hC, _, _, hI⟩
    · have HE : Hid (RExpPost base W0 A g w T (resOf cp (ansOf A) (bl s) σ) (.returned (.tuple #[.string (ba out), .int .i64 0])) w3) := Lib.hid (by rw [HR.out, hr]; exact ⟨T', rfl, hI, hKw, hT2⟩)
      clear hK hp hT' hKw hT2 hr hC hI
      go_wp2_with fail
      go_ret2
      exact HE.out
    · have HE : Hid (RExpPost base W0 A g w T (resOf cp (ansOf A) (bl s) σ) (.returned (.tuple #[.string ⟨#[]⟩, .int .i64 2])) w3) := Lib.hid (by rw [HR.out, hr]; exact ⟨T', rfl, hI, hKw, hT2⟩)
      clear hK hp hT' hKw hT2 hr hC hI
      go_wp2_with fail
      go_ret2
      exact HE.out
end Go.Proofs.Ytcahlfafadabaaa
