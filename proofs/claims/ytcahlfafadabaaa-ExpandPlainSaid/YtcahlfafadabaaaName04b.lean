/- expand.name: the name at a text's front. -/
import Derived.Test.YtcahlfafadabaaaName04
namespace Go.Proofs.Ytcahlfafadabaaa
open Go.RowKit

/-- t, n are what is told of a text that begins as l. -/
def NameIs (l nm : Bs) (n : Int) : Prop := nameP l = (if n = 0 then none else some (nm, n.toNat)) ∧ 0 ≤ n
def NamePost (l : Bs) (w : World) (e : Ending) (w' : World) : Prop := ∃ (t : ByteArray) (n : Int), e = .returned (.tuple #[.string t, .int .i64 n]) ∧ Below w.heap.size w w' ∧ NameIs l (bl t) n
theorem nameIs_none {l nm : Bs} (h : nameP l = none) : NameIs l nm 0 := ⟨by rw [if_pos rfl]; exact h, Int.le_refl _⟩
theorem nameIs_some {l nm nm' : Bs} {n : Nat} {z : Int} (h : nameP l = some (nm, n)) (hz : z = n) (hn : nm' = nm) : NameIs l nm' z := by
  have := (nameP_le h).1
  subst hz; subst hn
  exact ⟨by rw [if_neg (by omega)]; simpa using h, by omega⟩
theorem indexByte_first (l : Bs) (c : UInt8) : (Lib.indexByte l c = -1 ∧ (l.takeWhile (· != c)).length = l.length) ∨ (Lib.indexByte l c = ((l.takeWhile (· != c)).length : Int) ∧ (l.takeWhile (· != c)).length < l.length) := by
  induction l with
  | nil => left; exact ⟨rfl, rfl⟩
  | cons b l ih =>
    unfold Lib.indexByte
    rw [List.takeWhile_cons]
    by_cases h : b = c
    · subst h
      right; simp
    · have h1 : (b == c) = false := by simpa using h
      have h2 : (b != c) = true := by simpa using h
      rw [h2]
      simp only [h1, Bool.false_eq_true, if_false, if_true, List.length_cons]
      rcases ih with ⟨e, hl⟩ | ⟨e, hl⟩
      · left; rw [e]; exact ⟨rfl, by omega⟩
      · right
        have : (Lib.indexByte l c == -1) = false := by rw [e]; simp
        rw [this, e]
        exact ⟨by simp, by omega⟩
theorem byteEq {c : UInt8} {n : Nat} (hn : n < 256) : c = n.toUInt8 ↔ ((c.toNat : Int) == (n : Int)) = true := by
  rw [beq_iff_eq, ← UInt8.toNat_inj]
  simp only [Nat.toUInt8, UInt8.toNat_ofNat']
  try omega
theorem byteNe {c : UInt8} {n : Nat} (hn : n < 256) : ¬ c = n.toUInt8 ↔ ((c.toNat : Int) == (n : Int)) = false := by
  rw [byteEq hn, Bool.not_eq_true]
theorem b40 {c : UInt8} : (c = 40) = (((c.toNat : Int) == 40) = true) := propext (byteEq (n := 40) (by omega))
theorem b91 {c : UInt8} : (c = 91) = (((c.toNat : Int) == 91) = true) := propext (byteEq (n := 91) (by omega))
theorem b43 {c : UInt8} : (c = 43) = (((c.toNat : Int) == 43) = true) := propext (byteEq (n := 43) (by omega))
theorem b45 {c : UInt8} : (c = 45) = (((c.toNat : Int) == 45) = true) := propext (byteEq (n := 45) (by omega))
set_option maxHeartbeats 1600000 in
theorem name_spec (s : ByteArray) (w : World) (hs : s.size ≤ 1000000) : Calls Try.prog 39 #[.string s] w (NamePost (bl s) w) := by
  cases hl : bl s with
  | nil =>
    have i0 : s.toList.isEmpty = true := by rw [bl_empty, hl]; rfl
    have HN : Hid (nameP [] = none) := Lib.hid rfl
    clear hl
    go_enter Try.func39, Try.ntmps39
    go_wp2
    go_ret2
    exact ⟨_, _, rfl, Below.refl _ _, nameIs_none HN.out⟩
  | cons c r =>
    have i0 : s.toList.isEmpty = false := by rw [bl_empty, hl]; rfl
    have hz : s.size = r.length + 1 := by rw [← bl_len, hl]; rfl
    obtain ⟨hp0, e0⟩ := bl_get (s := s) (i := 0) (c := c) (by rw [hl]; rfl)
    have HL := Lib.hid hl
    have HZ := Lib.hid hz
    clear hl hz
    cases q40 : ((c.toNat : Int) == 40) with
    | true =>
      match r, HL, HZ with
      | [], HL, HZ =>
        have i1 : ¬ (2 : Int) < (s.size : Int) := by have := HZ.out; simp at this; omega
        have HN : Hid (nameP [c] = none) := Lib.hid (by rw [nameP.eq_def]; dsimp only; rw [if_pos (b40 ▸ q40)])
        go_enter Try.func39, Try.ntmps39
        go_wp2
        go_ret2
        exact ⟨_, _, rfl, Below.refl _ _, nameIs_none HN.out⟩
      | [a], HL, HZ =>
        have i1 : ¬ (2 : Int) < (s.size : Int) := by have := HZ.out; simp at this; omega
        have HN : Hid (nameP [c, a] = none) := Lib.hid (by rw [nameP.eq_def]; dsimp only; rw [if_pos (b40 ▸ q40)])
        go_enter Try.func39, Try.ntmps39
        go_wp2
        go_ret2
        exact ⟨_, _, rfl, Below.refl _ _, nameIs_none HN.out⟩
      | a :: b :: r', HL, HZ =>
        have i1 : (2 : Int) < (s.size : Int) := by have := HZ.out; simp at this; omega
        have i2 : (1 : Int) < (s.size : Int) := by omega
        have i3 : 3 ≤ s.size := by omega
        obtain ⟨hp1, e1⟩ := bl_get (s := s) (i := 1) (c := a) (by rw [HL.out]; rfl)
        obtain ⟨hp2, e2⟩ := bl_get (s := s) (i := 2) (c := b) (by rw [HL.out]; rfl)
        have HX : Hid (bl (s.extract 1 3) = [a, b]) := Lib.hid (by rw [bl_extract, HL.out]; rfl)
        cases ha : isNm a with
        | false =>
          have HN : Hid (nameP (c :: a :: b :: r') = none) := Lib.hid (by rw [nameP.eq_def]; dsimp only; rw [if_pos (b40 ▸ q40), if_neg (by simp [ha])])
          go_enter Try.func39, Try.ntmps39
          go_wp2_with fail
          refine (plain_spec a _).mono ?_
          rintro e w1 ⟨rfl, rfl⟩
          rw [ha]
          go_wp2
          go_ret2
          exact ⟨_, _, rfl, Below.refl _ _, nameIs_none HN.out⟩
        | true =>
          cases hb : isNm b with
          | false =>
            have HN : Hid (nameP (c :: a :: b :: r') = none) := Lib.hid (by rw [nameP.eq_def]; dsimp only; rw [if_pos (b40 ▸ q40), if_neg (by simp [hb])])
            go_enter Try.func39, Try.ntmps39
            go_wp2_with fail
            refine (plain_spec a _).mono ?_
            rintro e w1 ⟨rfl, rfl⟩
            rw [ha]
            go_wp2_with fail
            refine (plain_spec b _).mono ?_
            rintro e w1 ⟨rfl, rfl⟩
            rw [hb]
            go_wp2
            go_ret2
            exact ⟨_, _, rfl, Below.refl _ _, nameIs_none HN.out⟩
          | true =>
            have HN : Hid (nameP (c :: a :: b :: r') = some ([a, b], 3)) := Lib.hid (by rw [nameP.eq_def]; dsimp only; rw [if_pos (b40 ▸ q40), if_pos ⟨ha, hb⟩])
            go_enter Try.func39, Try.ntmps39
            go_wp2_with fail
            refine (plain_spec a _).mono ?_
            rintro e w1 ⟨rfl, rfl⟩
            rw [ha]
            go_wp2_with fail
            refine (plain_spec b _).mono ?_
            rintro e w1 ⟨rfl, rfl⟩
            rw [hb]
            go_wp2
            go_ret2
            exact ⟨_, _, rfl, Below.refl _ _, nameIs_some HN.out rfl HX.out⟩
    | false =>
      cases q91 : ((c.toNat : Int) == 91) with
      | true =>
        have hc91 : c ≠ 93 := by intro e; subst e; simp at q91
        have hidx := indexByte_first r 93
        have hi : Lib.indexByte (bl s) 93 = if Lib.indexByte r 93 = -1 then -1 else Lib.indexByte r 93 + 1 := by
          rw [HL.out, Lib.indexByte]
          rw [if_neg (by simpa using hc91)]
          simp
        have hdef : nameP (c :: r) = if (nmTo r).length < r.length ∧ 1 ≤ (nmTo r).length ∧ (nmTo r).length ≤ 20 ∧ (nmTo r).all isNm then some (nmTo r, (nmTo r).length + 2) else none := by
          rw [nameP.eq_def]; dsimp only; rw [if_neg (by rw [b40, q40]; decide), if_pos (b91 ▸ q91)]
        have hnm : r.takeWhile (· != 93) = nmTo r := rfl
        rw [hnm] at hidx
        rcases hidx with ⟨hx, hlen⟩ | ⟨hx, hlen⟩
        · have HN : Hid (nameP (c :: r) = none) := Lib.hid (by rw [hdef, if_neg (by omega)])
          have HI : Hid (Lib.indexByte (bl s) 93 = -1) := Lib.hid (by rw [hi, if_pos hx])
          clear hi hdef hnm hx hlen hc91
          go_enter Try.func39, Try.ntmps39
          go_wp2_with fail
          refine (Try.strings_IndexByte s 93 w).mono ?_
          rintro e w' ⟨rfl, rfl⟩
          rw [show Lib.indexByte s.data.toList (93 : Int).toNat.toUInt8 = -1 from HI.out]
          go_wp2
          go_ret2
          exact ⟨_, _, rfl, Below.refl _ _, nameIs_none HN.out⟩
        · have HI : Hid (Lib.indexByte (bl s) 93 = ((nmTo r).length : Int) + 1) := Lib.hid (by rw [hi, if_neg (by omega), hx])
          have hsz := HZ.out
          have HX : Hid (bl (s.extract 1 ((nmTo r).length + 1)) = nmTo r) := Lib.hid (by
            rw [bl_extract, HL.out, List.drop_succ_cons, List.drop_zero, Nat.add_sub_cancel]
            exact (List.prefix_iff_eq_take.1 (List.takeWhile_prefix _)).symm)
          obtain ⟨m, hm⟩ : ∃ m, (nmTo r).length = m := ⟨_, rfl⟩
          have HM := Lib.hid hm
          rw [hm] at HI HX hlen hdef
          have i9 : m + 1 ≤ s.size := by omega
          by_cases h1 : 1 ≤ m ∧ m ≤ 20
          · have j1 : ¬ ((m : Int) + 1 < 2) := by omega
            have j2 : ¬ (21 : Int) < (m : Int) + 1 := by omega
            have j3 : (0 : Int) ≤ (m : Int) + 1 := by omega
            have j4 : (m : Int) + 1 ≤ (s.size : Int) := by omega
            have j5 : (1 : Int) ≤ (m : Int) + 1 := by omega
            cases hall : (nmTo r).all isNm with
            | true =>
              have HN : Hid (nameP (c :: r) = some (nmTo r, m + 2)) := Lib.hid (by rw [hdef, if_pos ⟨hlen, h1.1, h1.2, hall⟩])
              have HA := Lib.hid hall
              clear hi hdef hnm hx hc91 hm hall hsz
              go_enter Try.func39, Try.ntmps39
              go_wp2_with fail
              refine (Try.strings_IndexByte s 93 w).mono ?_
              rintro e w' ⟨rfl, rfl⟩
              rw [show Lib.indexByte s.data.toList (93 : Int).toNat.toUInt8 = (m : Int) + 1 from HI.out]
              go_wp2_with fail
              refine (contains_bad _ _).mono ?_
              rintro e w2 ⟨rfl, hb2⟩
              rw [HX.out, HA.out]
              go_wp2
              go_ret2
              exact ⟨_, _, rfl, hb2, nameIs_some HN.out (by omega) HX.out⟩
            | false =>
              have HN : Hid (nameP (c :: r) = none) := Lib.hid (by rw [hdef, if_neg (by rw [hall]; simp)])
              have HA := Lib.hid hall
              clear hi hdef hnm hx hc91 hm hall hsz
              go_enter Try.func39, Try.ntmps39
              go_wp2_with fail
              refine (Try.strings_IndexByte s 93 w).mono ?_
              rintro e w' ⟨rfl, rfl⟩
              rw [show Lib.indexByte s.data.toList (93 : Int).toNat.toUInt8 = (m : Int) + 1 from HI.out]
              go_wp2_with fail
              refine (contains_bad _ _).mono ?_
              rintro e w2 ⟨rfl, hb2⟩
              rw [HX.out, HA.out]
              go_wp2
              go_ret2
              exact ⟨_, _, rfl, hb2, nameIs_none HN.out⟩
          · have HN : Hid (nameP (c :: r) = none) := Lib.hid (by rw [hdef, if_neg (fun h => h1 ⟨h.2.1, h.2.2.1⟩)])
            have j9 : (m : Int) + 1 < 2 ∨ (21 : Int) < (m : Int) + 1 := by omega
            clear hi hdef hnm hx hc91 hm hsz h1
            rcases j9 with j1 | j2
            · go_enter Try.func39, Try.ntmps39
              go_wp2_with fail
              refine (Try.strings_IndexByte s 93 w).mono ?_
              rintro e w' ⟨rfl, rfl⟩
              rw [show Lib.indexByte s.data.toList (93 : Int).toNat.toUInt8 = (m : Int) + 1 from HI.out]
              go_wp2
              go_ret2
              exact ⟨_, _, rfl, Below.refl _ _, nameIs_none HN.out⟩
            · have j1 : ¬ ((m : Int) + 1 < 2) := by omega
              go_enter Try.func39, Try.ntmps39
              go_wp2_with fail
              refine (Try.strings_IndexByte s 93 w).mono ?_
              rintro e w' ⟨rfl, rfl⟩
              rw [show Lib.indexByte s.data.toList (93 : Int).toNat.toUInt8 = (m : Int) + 1 from HI.out]
              go_wp2
              go_ret2
              exact ⟨_, _, rfl, Below.refl _ _, nameIs_none HN.out⟩
      | false =>
        have hdef : nameP (c :: r) = if c = 43 ∨ c = 45 ∨ isNm c = false then none else some ([c], 1) := by
          rw [nameP.eq_def]; dsimp only; rw [if_neg (by rw [b40, q40]; decide), if_neg (by rw [b91, q91]; decide)]
        have HX : Hid (bl (s.extract 0 1) = [c]) := Lib.hid (by rw [bl_extract, HL.out]; rfl)
        have i9 : 1 ≤ s.size := by omega
        by_cases k43 : (c.toNat : Int) = 43
        · have HN : Hid (nameP (c :: r) = none) := Lib.hid (by rw [hdef, if_pos (.inl (by rw [b43]; simp [k43]))])
          have q43 : ((c.toNat : Int) == 43) = true := by simp [k43]
          clear hdef
          go_enter Try.func39, Try.ntmps39
          go_wp2
          go_ret2
          exact ⟨_, _, rfl, Below.refl _ _, nameIs_none HN.out⟩
        · have q43 : ((c.toNat : Int) == 43) = false := by simp [k43]
          by_cases k45 : (c.toNat : Int) = 45
          · have HN : Hid (nameP (c :: r) = none) := Lib.hid (by rw [hdef, if_pos (.inr (.inl (by rw [b45]; simp [k45])))])
            have q45 : ((c.toNat : Int) == 45) = true := by simp [k45]
            clear hdef
            go_enter Try.func39, Try.ntmps39
            go_wp2
            go_ret2
            exact ⟨_, _, rfl, Below.refl _ _, nameIs_none HN.out⟩
          · have q45 : ((c.toNat : Int) == 45) = false := by simp [k45]
            cases hnc : isNm c with
            | false =>
              have HN : Hid (nameP (c :: r) = none) := Lib.hid (by rw [hdef, if_pos (.inr (.inr hnc))])
              clear hdef
              go_enter Try.func39, Try.ntmps39
              go_wp2_with fail
              refine (plain_spec c _).mono ?_
              rintro e w1 ⟨rfl, rfl⟩
              rw [hnc]
              go_wp2
              go_ret2
              exact ⟨_, _, rfl, Below.refl _ _, nameIs_none HN.out⟩
            | true =>
              have HN : Hid (nameP (c :: r) = some ([c], 1)) := Lib.hid (by rw [hdef, if_neg (by rw [b43, b45, q43, q45, hnc]; decide)])
              clear hdef
              go_enter Try.func39, Try.ntmps39
              go_wp2_with fail
              refine (plain_spec c _).mono ?_
              rintro e w1 ⟨rfl, rfl⟩
              rw [hnc]
              go_wp2
              go_ret2
              exact ⟨_, _, rfl, Below.refl _ _, nameIs_some HN.out rfl HX.out⟩
end Go.Proofs.Ytcahlfafadabaaa
