/- ExpandBits. -/
import Derived.Test.YtcahlfafadabaaaBits04
namespace Go.Proofs.Ytcahlfafadabaaa
open Go.RowKit

theorem infoStr : (Try.prog.info? 9).map (fun i => (i.zero, i.size, i.bytes)) = some (some (.string ⟨#[]⟩), 1, 16) := by kernel_rfl
theorem sl_cell {k : IntKind} {w : World} {L : List Nat} {A : Option Addr} {n c : Nat} {xs : List (List Int)} (h : Sl (Rp.slice (Rp.int k)) w L (.slice A n c) xs) {i : Nat} (hi : i < xs.length) :
    ∃ b o A1 c1, A = some ⟨b, o, none⟩ ∧ w.cell? ⟨b, o + i, none⟩ = some (.slice A1 xs[i].length c1) ∧ Sl (Rp.int k) w L (.slice A1 xs[i].length c1) xs[i] := by
  obtain ⟨b, o, rfl, _, cs, ⟨v, hv, hk⟩, hc⟩ := h.get hi
  obtain ⟨A1, c1, rfl⟩ := hk.val
  have := hc 0 _ (by rw [hv]; rfl)
  simp [Rp.slice] at this
  exact ⟨b, o, A1, c1, rfl, this, hk⟩
set_option maxHeartbeats 3200000 in
theorem bits_law (w : World) (A0 : Option Addr) (n0 c0 : Nat) (l : List Int) (hl : Sl (Rp.int .u8) w [] (.slice A0 n0 c0) l) (hx : ∀ x ∈ l, 0 ≤ x ∧ x ≤ 255) (cp : Bool) (A2 : Option Addr) (n2 c2 : Nat) (M : List (List Int)) (hM : Sl (Rp.slice (Rp.int .u8)) w [] (.slice A2 n2 c2) M) (hMx : ∀ m ∈ M, ∀ x ∈ m, 0 ≤ x ∧ x ≤ 255) :
    Calls Try.prog 4 #[.slice A0 n0 c0, .bool cp, .slice A2 n2 c2] w fun e w' => e = .returned (.bool true) ∧ Below w.heap.size w w' := by
  have e1 := hl.len_eq
  have e2 := hM.len_eq
  subst e1 e2
  have HL := Lib.hid hl
  have HM := Lib.hid hM
  have HX := Lib.hid hx
  have HMX := Lib.hid hMx
  clear hl hM hx hMx
  by_cases h60 : l.length ≤ 60
  · have i1 : ¬ (60 : Int) < (l.length : Int) := by omega
    by_cases h6 : M.length ≤ 6
    · have i2 : ¬ (6 : Int) < (M.length : Int) := by omega
      go_enter Try.func4, Try.ntmps4
      go_wp2_with fail
      go_loopw [7, 8] (fun v i wr => Below w.heap.size w wr ∧ ∃ (k : Nat) (As : List ByteArray) (r : Value), k ≤ M.length ∧ r = v ∧ i = .int .i64 k ∧ OwnS Rp.str 9 wr w.heap.size [] r As ∧ As.length = k ∧ ∀ a ∈ As, a.size ≤ 160) (fun _ i _ => M.length - (intOf i).toNat)
      case atStart => exact ⟨Below.refl _ _, 0, [], _, Nat.zero_le _, rfl, rfl, OwnS.nil _ _ _ _ _, rfl, fun a ha => by cases ha⟩
      case round =>
        obtain ⟨hB, k, As, v, hk, rfl, rfl, hO, hAl, hAs⟩ := hrel
        have HB := Lib.hid hB
        have HO := Lib.hid hO
        have HAS := Lib.hid (And.intro hAl hAs)
        by_cases hlt : k < M.length
        · obtain ⟨b1, o1, Ak, ck, rfl, p1, hk1⟩ := sl_cell (HM.out.below hB) hlt
          have hmx := HMX.out _ (List.getElem_mem hlt)
          generalize M[k] = m at *
          have i3 : (k : Int) < (M.length : Int) := by omega
          have i4 : (0 : Int) ≤ (k : Int) := by omega
          have HK1 := Lib.hid (And.intro hk1 hmx)
          clear hk1 hmx hB hO hAl hAs
          by_cases h20 : m.length ≤ 20
          · have i5 : ¬ (20 : Int) < (m.length : Int) := by omega
            go_wp2_with fail
            refine (bits_spec wr Ak _ ck m HK1.out.1 HK1.out.2 (by omega)).mono ?_
            rintro e w1 ⟨t, rfl, ht, hb1⟩
            have HB1 := Lib.hid (And.intro hb1 ht)
            have hz1 := hb1.size
            have hz0 := HB.out.size
            clear hb1 ht
            go_wp2_with (
              at_builtin
              refine wpList_push1 Rp.str (by rfl) _ _ _ (by rfl) w.heap.size 9 _ 16 [] As t [.string t] v w1.heap.size Try.underlying22 infoStr (by rfl) (by decide) (by rfl) ?hO (by rfl) ?hc ?hy ?hl ?h63 ?hb ?hL ?_
              rotate_right
              intro g cap w2 hO2 hgr2 hfr2 hat2 hlt2)
            case hO => exact (HO.out.below HB1.out.1).below ((Below.refl _ _).alloc (Nat.le_refl _) _)
            case hc => exact new_cells w1 _ _
            case hy => exact rfl
            case hl => have := HAS.out.1; omega
            case h63 => have := HAS.out.1; omega
            case hb => simp; omega
            case hL => intro b hb; cases hb
            have HW2 := Lib.hid (hfr2 _ _ (((HB.out.trans (HB1.out.1.mono hz0))).alloc (by omega) _) (Nat.le_refl _))
            have HO2 := Lib.hid hO2
            clear hO2 hgr2 hfr2 hat2 hlt2
            go_wp2_with fail
            go_roundw
            case rel => exact ⟨HW2.out, k + 1, As ++ [t], _, by omega, rfl, by go_num, HO2.out, by rw [List.length_append, HAS.out.1]; rfl, fun a ha => by
              rcases List.mem_append.1 ha with ha | ha
              · exact HAS.out.2 a ha
              · simp at ha; subst ha; have := HB1.out.2; omega⟩
            case measure => simp [intOf]; omega
          · have i5 : (20 : Int) < (m.length : Int) := by omega
            go_wp2_with fail
            refine (sane_spec _).mono ?_
            rintro e w9 ⟨rfl, hb9⟩
            have HB9 := Lib.hid (HB.out.trans (hb9.mono HB.out.size))
            clear hb9
            go_wp2_with fail
            go_ret
            exact ⟨rfl, HB9.out⟩
        · have i3 : ¬ (k : Int) < (M.length : Int) := by omega
          obtain ⟨A1, c1, rfl⟩ := hO.val
          have hz0 := hB.size
          clear hB hO hAl hAs
          go_wp2_with fail
          refine (bits_spec wr A0 _ c0 l (HL.out.below HB.out) HX.out (by omega)).mono ?_
          rintro e w1 ⟨t, rfl, ht, hb1⟩
          have HB1 := Lib.hid (HB.out.trans (hb1.mono HB.out.size))
          have HO1 := Lib.hid (HO.out.below hb1).sl
          have hz1 := hb1.size
          have hts : t.size ≤ 1000 := by omega
          clear hb1 ht
          go_wp2_with fail
          refine (same_spec w1 t cp A1 _ c1 As HO1.out (by omega) (fun a ha => by have := HAS.out.2 a ha; omega)).mono ?_
          rintro e w2 ⟨rfl, hb2⟩
          have HB2 := Lib.hid (HB1.out.trans (hb2.mono HB1.out.size))
          clear hb2
          go_wp2_with fail
          refine (sane_spec _).mono ?_
          rintro e w9 ⟨rfl, hb9⟩
          have HB9 := Lib.hid (HB2.out.trans (hb9.mono HB2.out.size))
          clear hb9
          go_wp2_with fail
          go_ret
          exact ⟨rfl, HB9.out⟩
    · have i2 : (6 : Int) < (M.length : Int) := by omega
      go_enter Try.func4, Try.ntmps4
      go_wp2_with fail
      refine (sane_spec _).mono ?_
      rintro e w9 ⟨rfl, hb9⟩
      have HB9 := Lib.hid (hb9)
      clear hb9
      go_wp2_with fail
      go_ret
      exact ⟨rfl, HB9.out⟩
  · have i1 : (60 : Int) < (l.length : Int) := by omega
    go_enter Try.func4, Try.ntmps4
    go_wp2_with fail
    refine (sane_spec _).mono ?_
    rintro e w9 ⟨rfl, hb9⟩
    have HB9 := Lib.hid (hb9)
    clear hb9
    go_wp2_with fail
    go_ret
    exact ⟨rfl, HB9.out⟩
end Go.Proofs.Ytcahlfafadabaaa
