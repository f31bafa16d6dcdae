/- light; ExpandDoes. -/
import Derived.Test.YtcahlfafadabaaaSame04
namespace Go.Proofs.Ytcahlfafadabaaa
open Go.RowKit

def sumB (l : List ByteArray) : Nat := (l.map (·.size)).sum
theorem sumB_snoc (l : List ByteArray) (a : ByteArray) : sumB (l ++ [a]) = sumB l + a.size := by simp [sumB]
theorem sumB_mem {l : List ByteArray} {a : ByteArray} (h : a ∈ l) : a.size ≤ sumB l := by
  induction l with
  | nil => cases h
  | cons x l ih =>
    have e : sumB (x :: l) = x.size + sumB l := by simp [sumB]
    rcases List.mem_cons.1 h with rfl | h
    · omega
    · have := ih h; omega
theorem sumB_le {l : List ByteArray} {B : Nat} (h : ∀ a ∈ l, a.size ≤ B) : sumB l ≤ l.length * B := by
  induction l with
  | nil => simp [sumB]
  | cons x l ih =>
    have e : sumB (x :: l) = x.size + sumB l := by simp [sumB]
    have h1 := h x List.mem_cons_self
    have h2 := ih (fun a ha => h a (List.mem_cons_of_mem _ ha))
    rw [e, List.length_cons, Nat.succ_mul]
    omega
theorem str_cell {w : World} {L : List Nat} {A : Option Addr} {n c : Nat} {xs : List ByteArray} (h : Sl Rp.str w L (.slice A n c) xs) {i : Nat} (hi : i < xs.length) : ∃ b o, A = some ⟨b, o, none⟩ ∧ w.cell? ⟨b, o + i, none⟩ = some (.string xs[i]) := by
  obtain ⟨b, o, rfl, _, cs, hk, hc⟩ := h.get hi
  have := hc 0 (.string xs[i]) (by rw [hk]; rfl)
  simp [Rp.str, Rp.scalar] at this
  exact ⟨b, o, rfl, this⟩
/-- What light tells. -/
def LightPost (s : ByteArray) (A : List ByteArray) (w : World) (e : Ending) (w' : World) : Prop := ∃ b, e = .returned (.bool b) ∧ w' = w ∧ (b = true → s.size ≤ 2500 ∧ ∀ a ∈ A, a.size ≤ 2500)
set_option maxHeartbeats 1600000 in
theorem light_spec (w : World) (s : ByteArray) (NA : Option Addr) (n nc : Nat) (A : List ByteArray) (hA : Sl Rp.str w [] (.slice NA n nc) A) (hb : ∀ a ∈ A, a.size ≤ 140737488351232) (hs : s.size ≤ 140737488351232) :
    Calls Try.prog 7 #[.string s, .slice NA n nc] w (LightPost s A w) := by
  have e1 := hA.len_eq
  subst e1
  have HA := Lib.hid hA
  clear hA
  by_cases h20 : A.length ≤ 20
  · have i9 : (A.length : Int) ≤ 20 := by omega
    go_enter Try.func7, Try.ntmps7
    go_wp2_with fail
    go_loopw [5, 6] (fun v i wr => wr = w ∧ ∃ (k n : Nat), k ≤ A.length ∧ v = .int .i64 n ∧ i = .int .i64 k ∧ n = s.size + sumB (A.take k)) (fun _ i _ => A.length - (intOf i).toNat)
    case atStart => exact ⟨rfl, 0, _, Nat.zero_le _, rfl, rfl, by simp [sumB]⟩
    case round =>
      obtain ⟨rfl, k, n, hk, rfl, rfl, hn⟩ := hrel
      have hn2 : n ≤ 22 * 140737488351232 := by
        have := sumB_le (l := A.take k) (fun a ha => hb a (List.mem_of_mem_take ha))
        have h1 : (A.take k).length ≤ 20 := by rw [List.length_take]; omega
        have := Nat.mul_le_mul_right 140737488351232 h1
        omega
      by_cases hlt : k < A.length
      · obtain ⟨b1, o1, rfl, p1⟩ := str_cell HA.out hlt
        have hsz := hb _ (List.getElem_mem hlt)
        have HN : Hid (s.size + sumB (A.take (k + 1)) = n + A[k].size) := Lib.hid (by rw [take_snoc hlt, sumB_snoc, hn]; omega)
        generalize A[k] = a at *
        have i1 : (k : Int) < (A.length : Int) := by omega
        have i3 : (0 : Int) ≤ (k : Int) := by omega
        clear hn
        go_wp2_with fail
        go_roundw
        case rel => exact ⟨by trivial, k + 1, n + a.size, by omega, by go_num, by go_num, HN.out.symm⟩
        case measure => simp [intOf]; omega
      · have hk' : k = A.length := by omega
        rw [hk', List.take_length] at hn
        have i1 : ¬ (k : Int) < (A.length : Int) := by omega
        have HN := Lib.hid hn
        clear hn hk'
        by_cases h25 : n ≤ 2500
        · have i2 : (n : Int) ≤ 2500 := by omega
          go_wp2_with fail
          go_ret
          exact ⟨_, rfl, rfl, fun _ => ⟨by have := HN.out; omega, fun a ha => by have := HN.out; have := sumB_mem ha; omega⟩⟩
        · have i2 : ¬ (n : Int) ≤ 2500 := by omega
          go_wp2_with fail
          go_ret
          exact ⟨_, rfl, rfl, fun h => by cases h⟩
  · have i9 : ¬ (A.length : Int) ≤ 20 := by omega
    go_enter Try.func7, Try.ntmps7
    go_wp2_with fail
    go_loopw [5, 6] (fun v i wr => wr = w ∧ ∃ (k : Nat) (n : Int), k ≤ A.length ∧ v = .int .i64 n ∧ i = .int .i64 k) (fun _ i _ => A.length - (intOf i).toNat)
    case atStart => exact ⟨rfl, 0, _, Nat.zero_le _, rfl, rfl⟩
    case round =>
      obtain ⟨rfl, k, n, hk, rfl, rfl⟩ := hrel
      by_cases hlt : k < A.length
      · obtain ⟨b1, o1, rfl, p1⟩ := str_cell HA.out hlt
        have hmx := HA.out.max
        generalize A[k] = a at *
        have i1 : (k : Int) < (A.length : Int) := by omega
        have i3 : (0 : Int) ≤ (k : Int) := by omega
        go_wp2_with fail
        go_roundw
        case rel => exact ⟨by trivial, k + 1, _, by omega, rfl, by go_num⟩
        case measure => simp [intOf]; omega
      · have i1 : ¬ (k : Int) < (A.length : Int) := by omega
        by_cases h25 : n ≤ 2500
        · go_wp2_with fail
          go_ret
          exact ⟨_, rfl, rfl, fun h => by first | exact absurd (of_decide_eq_true h) (by omega) | cases h⟩
        · go_wp2_with fail
          go_ret
          exact ⟨_, rfl, rfl, fun h => by first | exact absurd (of_decide_eq_true h) (by omega) | cases h⟩
set_option maxHeartbeats 1600000 in
theorem does_law (w : World) (s : ByteArray) (cp : Bool) (NA : Option Addr) (n nc : Nat) (A : List ByteArray) (hA : Sl Rp.str w [] (.slice NA n nc) A) (hb : ∀ a ∈ A, a.size ≤ 140737488351232) (hs : s.size ≤ 140737488351232) :
    Calls Try.prog 3 #[.string s, .bool cp, .slice NA n nc] w fun e w' => e = .returned (.bool true) ∧ Below w.heap.size w w' := by
  go_enter Try.func3, Try.ntmps3
  go_wp2_with fail
  refine (light_spec w s NA n nc A hA hb hs).mono ?_
  rintro e w1 ⟨b, rfl, rfl, hlt⟩
  cases b with
  | false =>
    go_wp2_with fail
    refine (sane_spec _).mono ?_
    rintro e w2 ⟨rfl, hb2⟩
    have HB2 := Lib.hid hb2
    clear hb2
    go_wp2_with fail
    go_ret
    exact ⟨rfl, HB2.out⟩
  | true =>
    obtain ⟨h1, h2⟩ := hlt rfl
    go_wp2_with fail
    refine (same_spec w1 s cp NA n nc A hA (by omega) (fun a ha => by have := h2 a ha; omega)).mono ?_
    rintro e w2 ⟨rfl, hb2⟩
    have HB2 := Lib.hid hb2
    clear hb2
    go_wp2_with fail
    refine (sane_spec _).mono ?_
    rintro e w3 ⟨rfl, hb3⟩
    have HB3 := Lib.hid (HB2.out.trans (hb3.mono HB2.out.size))
    clear hb3
    go_wp2_with fail
    go_ret
    exact ⟨rfl, HB3.out⟩
end Go.Proofs.Ytcahlfafadabaaa
