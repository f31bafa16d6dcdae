/- expand.name, plain, and what they call. -/
import Derived.Test.YtcahlfafadabaaaEx04
import Derived.Test.YtcahlfafadabaaaBld
import Derived.Lib.IndexBytes
import Derived.Lib.IndexLaws
namespace Go.Proofs.Ytcahlfafadabaaa
open Go.RowKit

def bl (s : ByteArray) : Bs := s.data.toList
theorem bl_len (s : ByteArray) : (bl s).length = s.size := by simp [bl]
theorem bl_get {s : ByteArray} {i : Nat} {c : UInt8} (h : (bl s)[i]? = some c) : ∃ hi : i < s.size, s[i] = c := by
  obtain ⟨h1, h2⟩ := List.getElem?_eq_some_iff.1 h
  exact ⟨by rw [← bl_len]; exact h1, by rw [← h2]; rfl⟩
theorem bl_empty (s : ByteArray) : s.toList.isEmpty = (bl s).isEmpty := by rw [Lib.toList_data]; rfl
theorem bl_extract (s : ByteArray) (a b : Nat) : bl (s.extract a b) = ((bl s).drop a).take (b - a) := Lib.extract_data s a b
theorem bl_to_end (s : ByteArray) (a : Nat) : bl (s.extract a s.size) = (bl s).drop a := Lib.extract_to_end s a

theorem ret_str2 {a b : ByteArray} {x y : Int} (h : a = b) (h2 : x = y) : Ending.returned (.tuple #[.string a, .int .i64 x]) = .returned (.tuple #[.string b, .int .i64 y]) := by rw [h, h2]
theorem plain_spec (c : UInt8) (w : World) : Calls Try.prog 44 #[.int .u8 c.toNat] w fun e w' => e = .returned (.bool (isNm c)) ∧ w = w' := by
  by_cases h1 : 33 ≤ c.toNat
  · by_cases h2 : c.toNat ≤ 126
    · have g1 : (33 : Int) ≤ (c.toNat : Int) := by omega
      have g2 : (c.toNat : Int) ≤ 126 := by omega
      have H : Hid (isNm c = true) := Lib.hid (by simp [isNm, h1, h2])
      clear h1 h2
      go_enter Try.func44, Try.ntmps44
      go_wp2
      go_ret
      exact ⟨ret_bool (by rw [H.out]), rfl⟩
    · have g1 : (33 : Int) ≤ (c.toNat : Int) := by omega
      have g2 : ¬ (c.toNat : Int) ≤ 126 := by omega
      have H : Hid (isNm c = false) := Lib.hid (by simp [isNm, h2])
      clear h1 h2
      go_enter Try.func44, Try.ntmps44
      go_wp2
      go_ret
      exact ⟨ret_bool (by rw [H.out]), rfl⟩
  · have g1 : ¬ (33 : Int) ≤ (c.toNat : Int) := by omega
    have H : Hid (isNm c = false) := Lib.hid (by simp [isNm, h1])
    clear h1
    go_enter Try.func44, Try.ntmps44
    go_wp2
    go_ret
    exact ⟨ret_bool (by rw [H.out]), rfl⟩
/-- The bad runes of a name. -/
def badR (x : Nat) : Bool := decide (x < 33) || decide (126 < x)
theorem bad_any (x : Nat) (w : World) (hx : x ≤ 1114111) : Calls Try.prog 46 #[.int .i32 x] w fun e w' => e = .returned (.bool (badR x)) ∧ w = w' := by
  by_cases h1 : x < 33
  · have g1 : (x : Int) < 33 := by omega
    have H : Hid (badR x = true) := Lib.hid (by simp [badR, h1])
    clear h1
    go_enter Try.func46, Try.ntmps46
    go_wp2
    go_ret
    exact ⟨ret_bool (by rw [H.out]), rfl⟩
  · by_cases h2 : 126 < x
    · have g1 : ¬ (x : Int) < 33 := by omega
      have g2 : (126 : Int) < (x : Int) := by omega
      have H : Hid (badR x = true) := Lib.hid (by simp [badR, h2])
      clear h1 h2
      go_enter Try.func46, Try.ntmps46
      go_wp2
      go_ret
      exact ⟨ret_bool (by rw [H.out]), rfl⟩
    · have g1 : ¬ (x : Int) < 33 := by omega
      have g2 : ¬ (126 : Int) < (x : Int) := by omega
      have H : Hid (badR x = false) := Lib.hid (by simp [badR, h1, h2])
      clear h1 h2
      go_enter Try.func46, Try.ntmps46
      go_wp2
      go_ret
      exact ⟨ret_bool (by rw [H.out]), rfl⟩
theorem bad_preds (w : World) : PredAtRunes Try.prog 46 #[] badR w := by
  intro W x hx _
  refine (bad_any x W hx).mono ?_
  rintro e w' ⟨rfl, rfl⟩
  exact ⟨rfl, 0, rfl⟩
theorem badR_byte {c : UInt8} : badR c.toNat = !isNm c := by
  unfold badR isNm
  rw [Bool.eq_iff_iff]; simp
  try omega
/-- A rune that is bad: a byte that is. -/
theorem idx_bad (s : ByteArray) : ∀ (f pos : Nat), s.size ≤ pos + f → (0 ≤ Lib.idxFuncFrom badR true s f pos ↔ ((bl s).drop pos).all isNm = false) := by
  intro f
  induction f with
  | zero =>
    intro pos h
    have : (bl s).drop pos = [] := List.drop_eq_nil_of_le (by rw [bl_len]; omega)
    rw [this]
    simp [Lib.idxFuncFrom]
  | succ f ih =>
    intro pos h
    by_cases hp : pos < s.size
    · have hb : pos < (bl s).length := by rw [bl_len]; exact hp
      have hg : (bl s)[pos] = s[pos] := rfl
      rw [List.drop_eq_getElem_cons hb, List.all_cons, hg, Lib.idxFuncFrom, if_pos hp]
      by_cases ha : s[pos].toNat < 128
      · have hd : Utf8.decode s pos = (s[pos].toNat, 1) := by
          unfold Utf8.decode
          simp only [get_at s pos hp]
          exact if_pos ha
        rw [hd]
        dsimp only
        rw [badR_byte]
        cases hn : isNm s[pos] with
        | true => simpa using ih (pos + 1) (by omega)
        | false => simp
      · have hd := (decode_high s pos hp (by omega)).1
        have hbad : badR (Utf8.decode s pos).1 = true := by simp [badR]; omega
        have hn : isNm s[pos] = false := by simp [isNm]; omega
        rw [if_pos hbad, hn]
        simp
    · have : (bl s).drop pos = [] := List.drop_eq_nil_of_le (by rw [bl_len]; omega)
      rw [this, Lib.idxFuncFrom_end _ _ _ _ _ hp]
      simp
theorem contains_bad (s : ByteArray) (w : World) :
    Calls Try.prog 45 #[.string s, .func (.func 46) #[] #[]] w fun e w' => e = .returned (.bool (!(bl s).all isNm)) ∧ Below w.heap.size w w' := by
  refine (Try.strings_ContainsFunc_runes 46 #[] (enters_of Try.func46 (by kernel_rfl) rfl) badR s w (bad_preds w)).mono ?_
  rintro e w' ⟨rfl, hb⟩
  refine ⟨ret_bool ?_, hb⟩
  have := idx_bad s s.size 0 (by omega)
  rw [List.drop_zero] at this
  cases h : (bl s).all isNm with
  | true =>
    rw [h] at this
    rw [Bool.not_true, decide_eq_false_iff_not]
    unfold Lib.idxFunc
    rw [this]; simp
  | false =>
    rw [Bool.not_false, decide_eq_true_iff]
    unfold Lib.idxFunc
    rw [this]; exact h
end Go.Proofs.Ytcahlfafadabaaa
