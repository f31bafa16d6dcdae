/- expand.Plain; ExpandPlain. -/
import Derived.Test.YtcahlfafadabaaaWalk04
import Derived.Test.YtcahlfafadabaaaSame04
namespace Go.Proofs.Ytcahlfafadabaaa
open Go.RowKit

theorem plain_fn (s : ByteArray) (w : World) (hs : s.size ≤ 1000000) : Calls Try.prog 14 #[.string s] w fun e w' => e = .returned (.bool (plP (bl s))) ∧ Below w.heap.size w w' := by
  have hmf : ∀ (fn : Fn) (first cap : Array Value) (w : World), (Instr.makeFunc fn first cap).run Try.prog w = .ok (.func fn first cap) w := fun _ _ _ _ => rfl
  have HB0 := Lib.hid (fresh_blk w (.cells #[.bool false] 4))
  go_enter Try.func14, Try.ntmps14
  go_wp2_with fail
  refine (walk_spec w.heap.size s _ HB0.out hs).mono ?_
  rintro e w1 ⟨r, a, rfl, hP, hK, hb⟩
  have c0 := cellOf hb 0
  simp at c0
  have HP := Lib.hid hP
  have HB := Lib.hid ((((Below.refl _ _).alloc (Nat.le_refl _) _ : Below w.heap.size w (w.alloc (.cells #[.bool false] 4)))).trans (hK.below_of (by simp) (fun x hx => by simp at hx; omega)))
  clear hP hK hb
  cases a with
  | true =>
    go_wp2_with fail
    go_ret
    exact ⟨ret_bool (by rw [HP.out]; simp), HB.out⟩
  | false =>
    cases r with
    | true =>
      go_wp2_with fail
      go_ret
      exact ⟨ret_bool (by rw [HP.out]; simp), HB.out⟩
    | false =>
      go_wp2_with fail
      go_ret
      exact ⟨ret_bool (by rw [HP.out]; simp), HB.out⟩
theorem tel_none (w0 : World) :
    TelInv 40 w0.heap.size w0 [] w0.heap.size (w0.alloc (.cells #[.slice none 0 0, .slice none 0 0] 40)) [] [w0.heap.size] ∧ Below w0.heap.size w0 (w0.alloc (.cells #[.slice none 0 0, .slice none 0 0] 40)) := by
  have hb : Below w0.heap.size w0 (w0.alloc (.cells #[.slice none 0 0, .slice none 0 0] 40)) := (Below.refl _ _).alloc (Nat.le_refl _) _
  exact ⟨⟨.slice none 0 0, .slice none 0 0, rfl, fresh_blk w0 _, OwnS.nil _ _ _ _ _, ⟨none, 0, rfl, Nat.le_refl _, by simp [maxLen], fun _ => rfl, fun h => absurd rfl h⟩, fun b hb' => hb.block b hb', Nat.le_refl _, Nat.le_refl _⟩, hb⟩
theorem ansOf_none : ansOf [] = fun _ => [] := rfl
/-- What an expansion does to a text that is a line. -/
theorem plain_res {s : Bs} {A : AskR → Bs} (h : fitsP s = true) (hp : plP s = true) : resOf false A s [] = (s, 0, []) := by
  have hl : s.length ≤ 2000 := by unfold fitsP at h; simp at h; exact h.1
  unfold resOf
  rw [h, if_pos rfl, plain_same (f2 := s.length + 1) (by unfold mu BIG; omega) (by omega) hp]
  simp
theorem other_res {s : Bs} {A : AskR → Bs} (h : fitsP s = true) (hp : plP s = false) : 0 < (resOf false A s []).2.2.length ∨ ((resOf false A s []).2.2 = [] ∧ (resOf false A s []).1.length < s.length) := by
  have hl : s.length ≤ 2000 := by unfold fitsP at h; simp at h; exact h.1
  unfold resOf
  rw [h, if_pos rfl]
  rcases other_less (A := A) (out := []) (σ := []) (f := BIG) (left := 500) (f2 := s.length + 1) (by unfold mu BIG; omega) (by omega) (by omega) hp with ⟨o, e, ho⟩ | ⟨o, l, σ', e, hs⟩ | ⟨σ', e, hs⟩
  · right; rw [e]; exact ⟨rfl, by simpa using ho⟩
  · left; rw [e]; exact hs
  · left; rw [e]; exact hs
set_option maxHeartbeats 3200000 in
theorem plain_law (w : World) (s : ByteArray) : Calls Try.prog 6 #[.string s] w fun e w' => e = .returned (.bool true) ∧ Below w.heap.size w w' := by
  have hmf : ∀ (fn : Fn) (first cap : Array Value) (w : World), (Instr.makeFunc fn first cap).run Try.prog w = .ok (.func fn first cap) w := fun _ _ _ _ => rfl
  by_cases h1 : s.size ≤ 1000
  · have i1 : ¬ (1000 : Int) < (s.size : Int) := by omega
    have HT := Lib.hid (tel_none w)
    go_enter Try.func6, Try.ntmps6
    go_wp2_with fail
    refine (isline_spec s _ (by omega)).mono ?_
    rintro e w1 ⟨rfl, rfl⟩
    cases hf : fitsP (bl s) with
    | false =>
      clear hf
      go_wp2_with fail
      refine (sane_spec _).mono ?_
      rintro e w9 ⟨rfl, hb9⟩
      have HB9 := Lib.hid (hb9)
      clear hb9
      go_wp2_with fail
      go_ret
      exact ⟨rfl, HB9.out⟩
    | true =>
      have HF := Lib.hid hf
      clear hf
      go_wp2_with fail
      refine (Expand_spec (tellerLk w.heap.size w [] w.heap.size (fun a ha => by cases ha)) s false _ [] [w.heap.size] HT.out.1 (by simp) (Nat.zero_le _)).mono ?_
      rintro e w2 ⟨t, T1, rfl, ht, hK1, hI2, hT1⟩
      have hR' : resOf false (tellerLk w.heap.size w [] w.heap.size (fun a ha => by cases ha)).ans (bl s) [] = resOf false (ansOf []) (bl s) [] := rfl
      rw [hR'] at ht hI2 ⊢
      have hI3 : TelInv 40 w.heap.size w [] w.heap.size w2 (resOf false (ansOf []) (bl s) []).2.2 T1 := hI2
      have HB2 := Lib.hid (HT.out.2.trans (hK1.below_of (by simp) (fun b hb => by simp at hb; omega)))
      have HI3 := Lib.hid hI3
      clear hK1 hI2 hI3 hT1 hR'
      cases hp : plP (bl s) with
      | true =>
        have hr := plain_res (A := ansOf []) HF.out hp
        rw [hr] at ht HI3 ⊢
        obtain rfl : t = s := bl_inj ht
        clear ht hr
        have HP := Lib.hid hp
        clear hp
        go_wp2_with fail
        refine (plain_fn t w2 (by omega)).mono ?_
        rintro e w3 ⟨rfl, hb3⟩
        have HB3 := Lib.hid (HB2.out.trans (hb3.mono HB2.out.size))
        obtain ⟨A1, k1, c1, _⟩ := (HI3.out.below (by decide) hb3).asks
        rw [HP.out]
        clear hb3
        go_wp2_with fail
        refine (sane_spec _).mono ?_
        rintro e w9 ⟨rfl, hb9⟩
        have HB9 := Lib.hid (HB3.out.trans (hb9.mono HB3.out.size))
        clear hb9
        go_wp2_with fail
        go_ret
        exact ⟨rfl, HB9.out⟩
      | false =>
        have hr := other_res (A := ansOf []) HF.out hp
        rw [← ht] at hr
        generalize resOf false (ansOf []) (bl s) [] = R at *
        obtain ⟨r1, r2, r3⟩ := R
        dsimp only at *
        have HP := Lib.hid hp
        clear hp ht
        go_wp2_with fail
        refine (plain_fn s w2 (by omega)).mono ?_
        rintro e w3 ⟨rfl, hb3⟩
        have HB3 := Lib.hid (HB2.out.trans (hb3.mono HB2.out.size))
        obtain ⟨A1, k1, c1, _⟩ := (HI3.out.below (by decide) hb3).asks
        rw [HP.out]
        clear hb3
        rcases hr with hr | ⟨hr1, hr2⟩
        · have i5 : (0 : Int) < (r3.length : Int) := by omega
          go_wp2_with fail
          refine (sane_spec _).mono ?_
          rintro e w9 ⟨rfl, hb9⟩
          have HB9 := Lib.hid (HB3.out.trans (hb9.mono HB3.out.size))
          clear hb9
          go_wp2_with fail
          go_ret
          exact ⟨rfl, HB9.out⟩
        · subst hr1
          rw [bl_len, bl_len] at hr2
          have i6 : (t.size : Int) < (s.size : Int) := by omega
          go_wp2_with fail
          refine (sane_spec _).mono ?_
          rintro e w9 ⟨rfl, hb9⟩
          have HB9 := Lib.hid (HB3.out.trans (hb9.mono HB3.out.size))
          clear hb9
          go_wp2_with fail
          go_ret
          exact ⟨rfl, HB9.out⟩
  · have i1 : (1000 : Int) < (s.size : Int) := by omega
    go_enter Try.func6, Try.ntmps6
    go_wp2_with fail
    refine (sane_spec _).mono ?_
    rintro e w9 ⟨rfl, hb9⟩
    have HB9 := Lib.hid (hb9)
    clear hb9
    go_wp2_with fail
    go_ret
    exact ⟨rfl, HB9.out⟩
end Go.Proofs.Ytcahlfafadabaaa
