/- The reference's one, name: the name at a place. -/
import Derived.Test.YtcahlfafadabaaaAsks04b
import Derived.Test.YtcahlfafadabaaaBa04
namespace Go.Proofs.Ytcahlfafadabaaa
open Go.RowKit

theorem one_spec (c : UInt8) (w : World) : Calls Try.prog 47 #[.int .u8 c.toNat] w fun e w' => e = .returned (.bool (isNm c)) ∧ w = w' := by
  by_cases h1 : 33 ≤ c.toNat
  · by_cases h2 : c.toNat ≤ 126
    · have g1 : (33 : Int) ≤ (c.toNat : Int) := by omega
      have g2 : (c.toNat : Int) ≤ 126 := by omega
      have H : Hid (isNm c = true) := Lib.hid (by simp [isNm, h1, h2])
      clear h1 h2
      go_enter Try.func47, Try.ntmps47
      go_wp2
      go_ret
      exact ⟨ret_bool (by rw [H.out]), rfl⟩
    · have g1 : (33 : Int) ≤ (c.toNat : Int) := by omega
      have g2 : ¬ (c.toNat : Int) ≤ 126 := by omega
      have H : Hid (isNm c = false) := Lib.hid (by simp [isNm, h2])
      clear h1 h2
      go_enter Try.func47, Try.ntmps47
      go_wp2
      go_ret
      exact ⟨ret_bool (by rw [H.out]), rfl⟩
  · have g1 : ¬ (33 : Int) ≤ (c.toNat : Int) := by omega
    have H : Hid (isNm c = false) := Lib.hid (by simp [isNm, h1])
    clear h1
    go_enter Try.func47, Try.ntmps47
    go_wp2
    go_ret
    exact ⟨ret_bool (by rw [H.out]), rfl⟩
/-- The bytes that the reference's loop goes over. -/
def goOn (c : UInt8) : Bool := isNm c && (c != 93)
theorem nm93 : isNm 93 = true := rfl
/-- Where the loop stopped at a byte. -/
theorem nmTo_stop {r : Bs} {k : Nat} (h : k < r.length) (ha : (r.take k).all goOn = true) (hc : r[k] = 93) : nmTo r = r.take k ∧ (nmTo r).length = k ∧ (nmTo r).all isNm = true := by
  induction r generalizing k with
  | nil => exact absurd h (Nat.not_lt_zero _)
  | cons a r ih =>
    cases k with
    | zero =>
      have : a = 93 := hc
      subst this
      exact ⟨rfl, rfl, rfl⟩
    | succ k =>
      rw [List.take_succ_cons, List.all_cons, Bool.and_eq_true] at ha
      obtain ⟨h1, h2, h3⟩ := ih (k := k) (by simpa using h) ha.2 (by simpa using hc)
      have hg := ha.1
      unfold goOn at hg
      rw [Bool.and_eq_true] at hg
      have e : nmTo (a :: r) = a :: nmTo r := by unfold nmTo; rw [List.takeWhile_cons, if_pos hg.2]
      rw [e, List.take_succ_cons, h1]
      refine ⟨rfl, by rw [← h1, List.length_cons, h2], ?_⟩
      rw [List.all_cons, hg.1, ← h1, h3]; rfl
/-- Where it stopped at no bracket. -/
theorem nmTo_bad {r : Bs} {k : Nat} (h : k ≤ r.length) (ha : (r.take k).all goOn = true) (hc : ∀ hk : k < r.length, isNm r[k] = false) : ¬ ((nmTo r).length < r.length ∧ (nmTo r).all isNm = true) := by
  induction r generalizing k with
  | nil => rintro ⟨h1, _⟩; exact absurd h1 (Nat.not_lt_zero _)
  | cons a r ih =>
    cases k with
    | zero =>
      have hn := hc (by simp)
      simp only [List.getElem_cons_zero] at hn
      have : (a != 93) = true := by
        rw [bne_iff_ne]
        intro e; subst e; cases hn
      have e : nmTo (a :: r) = a :: nmTo r := by unfold nmTo; rw [List.takeWhile_cons, if_pos this]
      rw [e, List.all_cons, hn]
      simp
    | succ k =>
      rw [List.take_succ_cons, List.all_cons, Bool.and_eq_true] at ha
      have hg := ha.1
      unfold goOn at hg
      rw [Bool.and_eq_true] at hg
      have e : nmTo (a :: r) = a :: nmTo r := by unfold nmTo; rw [List.takeWhile_cons, if_pos hg.2]
      rw [e, List.all_cons, hg.1, List.length_cons, List.length_cons]
      have := ih (k := k) (by simpa using h) ha.2 (fun hk => by
        have := hc (by simpa using hk)
        rwa [List.getElem_cons_succ] at this)
      rw [Bool.true_and]
      rintro ⟨h1, h2⟩
      exact this ⟨by omega, h2⟩
/-- What name tells of a text that lies behind the first z bytes. -/
def RNamePost (l : Bs) (z : Nat) (w : World) (e : Ending) (w' : World) : Prop := w = w' ∧
  ((nameP l = none ∧ e = .returned (.tuple #[.string ⟨#[]⟩, .int .i64 (-1)])) ∨
   ∃ (nm : Bs) (m : Nat), nameP l = some (nm, m) ∧ e = .returned (.tuple #[.string (ba nm), .int .i64 ((z : Int) + m)]))
set_option maxHeartbeats 1600000 in
theorem rname2 (s : ByteArray) (w : World) (hs : s.size ≤ 1000000) : Calls Try.prog 40 #[.string s, .int .i64 2] w (RNamePost ((bl s).drop 2) 2 w) := by
  cases hl : (bl s).drop 2 with
  | nil =>
    have i0 : (s.size : Int) ≤ 2 := by have := congrArg List.length hl; rw [List.length_drop, bl_len] at this; simp at this; omega
    have HN : Hid (nameP [] = none) := Lib.hid rfl
    clear hl
    go_enter Try.func40, Try.ntmps40
    go_wp2
    go_ret2
    exact ⟨rfl, .inl ⟨HN.out, rfl⟩⟩
  | cons c r =>
    have hz : s.size = r.length + 3 := by have := congrArg List.length hl; rw [List.length_drop, bl_len] at this; simp at this; omega
    have hget : ∀ j, (bl s)[2 + j]? = (c :: r)[j]? := fun j => by rw [← hl, List.getElem?_drop]
    have i0 : ¬ (s.size : Int) ≤ 2 := by omega
    obtain ⟨hp0, e0⟩ := bl_get (s := s) (i := 2) (c := c) (by rw [hget 0]; rfl)
    have HL := Lib.hid hl
    have HZ := Lib.hid hz
    have HG := Lib.hid hget
    clear hl hz hget
    cases q40 : ((c.toNat : Int) == 40) with
    | true =>
      match r, HL, HZ, HG with
      | [], HL, HZ, HG =>
        have i1 : ¬ (4 : Int) < (s.size : Int) := by have := HZ.out; simp at this; omega
        have HN : Hid (nameP [c] = none) := Lib.hid (by rw [nameP.eq_def]; dsimp only; rw [if_pos (b40 ▸ q40)])
        go_enter Try.func40, Try.ntmps40
        go_wp2
        go_ret2
        exact ⟨rfl, .inl ⟨HN.out, rfl⟩⟩
      | [a], HL, HZ, HG =>
        have i1 : ¬ (4 : Int) < (s.size : Int) := by have := HZ.out; simp at this; omega
        have HN : Hid (nameP [c, a] = none) := Lib.hid (by rw [nameP.eq_def]; dsimp only; rw [if_pos (b40 ▸ q40)])
        go_enter Try.func40, Try.ntmps40
        go_wp2
        go_ret2
        exact ⟨rfl, .inl ⟨HN.out, rfl⟩⟩
      | a :: b :: r', HL, HZ, HG =>
        have i1 : (4 : Int) < (s.size : Int) := by have := HZ.out; simp at this; omega
        have i2 : (3 : Int) < (s.size : Int) := by omega
        have i3 : 5 ≤ s.size := by omega
        have i4 : (5 : Int) ≤ (s.size : Int) := by omega
        obtain ⟨hp1, e1⟩ := bl_get (s := s) (i := 3) (c := a) (by rw [show 3 = 2 + 1 from rfl, HG.out]; rfl)
        obtain ⟨hp2, e2⟩ := bl_get (s := s) (i := 4) (c := b) (by rw [show 4 = 2 + 2 from rfl, HG.out]; rfl)
        have HX : Hid (s.extract 3 5 = ba [a, b]) := Lib.hid (ba_of (by rw [bl_extract, show (3 : Nat) = 2 + 1 from rfl, ← List.drop_drop, HL.out]; rfl))
        cases ha : isNm a with
        | false =>
          have HN : Hid (nameP (c :: a :: b :: r') = none) := Lib.hid (by rw [nameP.eq_def]; dsimp only; rw [if_pos (b40 ▸ q40), if_neg (by simp [ha])])
          go_enter Try.func40, Try.ntmps40
          go_wp2_with fail
          refine (one_spec a _).mono ?_
          rintro e w1 ⟨rfl, rfl⟩
          rw [ha]
          go_wp2
          go_ret2
          exact ⟨rfl, .inl ⟨HN.out, rfl⟩⟩
        | true =>
          cases hb : isNm b with
          | false =>
            have HN : Hid (nameP (c :: a :: b :: r') = none) := Lib.hid (by rw [nameP.eq_def]; dsimp only; rw [if_pos (b40 ▸ q40), if_neg (by simp [hb])])
            go_enter Try.func40, Try.ntmps40
            go_wp2_with fail
            refine (one_spec a _).mono ?_
            rintro e w1 ⟨rfl, rfl⟩
            rw [ha]
            go_wp2_with fail
            refine (one_spec b _).mono ?_
            rintro e w1 ⟨rfl, rfl⟩
            rw [hb]
            go_wp2
            go_ret2
            exact ⟨rfl, .inl ⟨HN.out, rfl⟩⟩
          | true =>
            have HN : Hid (nameP (c :: a :: b :: r') = some ([a, b], 3)) := Lib.hid (by rw [nameP.eq_def]; dsimp only; rw [if_pos (b40 ▸ q40), if_pos ⟨ha, hb⟩])
            go_enter Try.func40, Try.ntmps40
            go_wp2_with fail
            refine (one_spec a _).mono ?_
            rintro e w1 ⟨rfl, rfl⟩
            rw [ha]
            go_wp2_with fail
            refine (one_spec b _).mono ?_
            rintro e w1 ⟨rfl, rfl⟩
            rw [hb]
            go_wp2
            go_ret2
            exact ⟨rfl, .inr ⟨_, _, HN.out, by rw [HX.out]; rfl⟩⟩
    | false =>
      cases q91 : ((c.toNat : Int) == 91) with
      | true =>
        have hdef : nameP (c :: r) = if (nmTo r).length < r.length ∧ 1 ≤ (nmTo r).length ∧ (nmTo r).length ≤ 20 ∧ (nmTo r).all isNm then some (nmTo r, (nmTo r).length + 2) else none := by
          rw [nameP.eq_def]; dsimp only; rw [if_neg (by rw [b40, q40]; decide), if_pos (b91 ▸ q91)]
        have HD := Lib.hid hdef
        have hsz := HZ.out
        clear hdef
        go_enter Try.func40, Try.ntmps40
        go_wp2_with fail
        go_loopw [6] (fun v wr => wr = w ∧ ∃ (k : Nat), k ≤ r.length ∧ v = .int .i64 (3 + (k : Int)) ∧ (r.take k).all goOn = true) (fun v _ => r.length + 3 - (intOf v).toNat)
        case atStart => exact ⟨rfl, 0, Nat.zero_le _, rfl, rfl⟩
        case round =>
          obtain ⟨rfl, k, hk, rfl, ha⟩ := hrel
          by_cases hlt : k < r.length
          · obtain ⟨hi, hg⟩ := bl_get (s := s) (i := 3 + k) (c := r[k]) (by rw [show 3 + k = 2 + (k + 1) from by omega, HG.out, List.getElem?_cons_succ]; exact List.getElem?_eq_getElem hlt)
            have HT := Lib.hid (take_snoc hlt)
            have HA := Lib.hid ha
            have HS := Lib.hid (fun h => nmTo_stop hlt ha h)
            have HBD := Lib.hid (fun (h : isNm r[k] = false) => nmTo_bad hk ha (fun _ => h))
            generalize r[k] = c' at *
            have i1 : (3 : Int) + (k : Int) < (s.size : Int) := by omega
            have i1' : ¬ (s.size : Int) ≤ (3 : Int) + (k : Int) := by omega
            have i2 : (0 : Int) ≤ (3 : Int) + (k : Int) := by omega
            have i3 : ((3 : Int) + (k : Int)).toNat = 3 + k := by omega
            have i5 : (3 : Int) + (k : Int) ≤ (s.size : Int) := by omega
            clear ha
            cases hn : isNm c' with
            | false =>
              have n93 : ((c'.toNat : Int) != 93) = true := bneq ((byteNe (n := 93) (by omega)).1 (fun e => by subst e; cases hn))
              have HN : Hid (nameP (c :: r) = none) := Lib.hid (by rw [HD.out, if_neg (fun h => HBD.out hn ⟨h.1, h.2.2.2⟩)])
              go_wp2_with fail
              refine (one_spec c' _).mono ?_
              rintro e w1 ⟨rfl, rfl⟩
              rw [hn]
              go_wp2
              go_ret2
              exact ⟨rfl, .inl ⟨HN.out, rfl⟩⟩
            | true =>
              cases q93 : ((c'.toNat : Int) == 93) with
              | false =>
                have n93 := bneq q93
                have HGO : Hid (goOn c' = true) := Lib.hid (by unfold goOn; rw [hn, Bool.true_and, bne_iff_ne]; exact (byteNe (n := 93) (by omega)).2 q93)
                go_wp2_with fail
                refine (one_spec c' _).mono ?_
                rintro e w1 ⟨rfl, rfl⟩
                rw [hn]
                go_wp2_with fail
                go_roundw
                case rel => exact ⟨by trivial, k + 1, by omega, by go_num, by rw [HT.out, List.all_append, HA.out, List.all_cons, HGO.out]; rfl⟩
                case measure => simp [intOf]; omega
              | true =>
                have n93 := bneq q93
                obtain ⟨h1, h2, h3⟩ := HS.out ((byteEq (n := 93) (by omega)).2 q93)
                have HD2 := HD.out
                rw [h2, h3, h1] at HD2
                clear h1 h2 h3
                have HD3 := Lib.hid HD2
                clear HD2
                by_cases k0 : k = 0
                · subst k0
                  have HN : Hid (nameP (c :: r) = none) := Lib.hid (by rw [HD3.out, if_neg (fun h => by omega)])
                  go_wp2_with fail
                  refine (one_spec c' _).mono ?_
                  rintro e w1 ⟨rfl, rfl⟩
                  rw [hn]
                  go_wp2
                  go_ret2
                  exact ⟨rfl, .inl ⟨HN.out, rfl⟩⟩
                · have j1 : ((3 : Int) + (k : Int) == 3) = false := by rw [beq_eq_false_iff_ne]; omega
                  by_cases k20 : 20 < k
                  · have HN : Hid (nameP (c :: r) = none) := Lib.hid (by rw [HD3.out, if_neg (fun h => by omega)])
                    have j2 : (20 : Int) < (3 : Int) + (k : Int) - 2 - 1 := by omega
                    go_wp2_with fail
                    refine (one_spec c' _).mono ?_
                    rintro e w1 ⟨rfl, rfl⟩
                    rw [hn]
                    go_wp2
                    go_ret2
                    exact ⟨rfl, .inl ⟨HN.out, rfl⟩⟩
                  · have HN : Hid (nameP (c :: r) = some (r.take k, k + 2)) := Lib.hid (by rw [HD3.out, if_pos ⟨hlt, by omega, by omega, rfl⟩])
                    have j2 : ¬ (20 : Int) < (3 : Int) + (k : Int) - 2 - 1 := by omega
                    have j3 : (3 : Int) ≤ (3 : Int) + (k : Int) := by omega
                    have HX : Hid (s.extract 3 (3 + k) = ba (r.take k)) := Lib.hid (ba_of (by rw [bl_extract, Nat.add_sub_cancel_left, show (3 : Nat) = 2 + 1 from rfl, ← List.drop_drop, HL.out]; rfl))
                    go_wp2_with fail
                    refine (one_spec c' _).mono ?_
                    rintro e w1 ⟨rfl, rfl⟩
                    rw [hn]
                    go_wp2
                    go_ret2
                    exact ⟨rfl, .inr ⟨_, _, HN.out, ret_str2 HX.out (by omega)⟩⟩
          · have HN : Hid (nameP (c :: r) = none) := Lib.hid (by rw [HD.out, if_neg (fun h => nmTo_bad hk ha (fun h' => absurd h' hlt) ⟨h.1, h.2.2.2⟩)])
            have i1 : ¬ (3 : Int) + (k : Int) < (s.size : Int) := by omega
            have i2 : (s.size : Int) ≤ (3 : Int) + (k : Int) := by omega
            clear ha
            go_wp2
            go_ret2
            exact ⟨rfl, .inl ⟨HN.out, rfl⟩⟩
      | false =>
        have hdef : nameP (c :: r) = if c = 43 ∨ c = 45 ∨ isNm c = false then none else some ([c], 1) := by
          rw [nameP.eq_def]; dsimp only; rw [if_neg (by rw [b40, q40]; decide), if_neg (by rw [b91, q91]; decide)]
        have HX : Hid (s.extract 2 3 = ba [c]) := Lib.hid (ba_of (by rw [bl_extract, HL.out]; rfl))
        have i9 : 3 ≤ s.size := by have := HZ.out; omega
        have i8 : (3 : Int) ≤ (s.size : Int) := by omega
        cases q43 : ((c.toNat : Int) == 43) with
        | true =>
          have HN : Hid (nameP (c :: r) = none) := Lib.hid (by rw [hdef, if_pos (.inl (by rw [b43]; exact q43))])
          clear hdef
          go_enter Try.func40, Try.ntmps40
          go_wp2
          go_ret2
          exact ⟨rfl, .inl ⟨HN.out, rfl⟩⟩
        | false =>
          cases q45 : ((c.toNat : Int) == 45) with
          | true =>
            have HN : Hid (nameP (c :: r) = none) := Lib.hid (by rw [hdef, if_pos (.inr (.inl (by rw [b45]; exact q45)))])
            clear hdef
            go_enter Try.func40, Try.ntmps40
            go_wp2
            go_ret2
            exact ⟨rfl, .inl ⟨HN.out, rfl⟩⟩
          | false =>
            cases hnc : isNm c with
            | false =>
              have HN : Hid (nameP (c :: r) = none) := Lib.hid (by rw [hdef, if_pos (.inr (.inr hnc))])
              clear hdef
              go_enter Try.func40, Try.ntmps40
              go_wp2_with fail
              refine (one_spec c _).mono ?_
              rintro e w1 ⟨rfl, rfl⟩
              rw [hnc]
              go_wp2
              go_ret2
              exact ⟨rfl, .inl ⟨HN.out, rfl⟩⟩
            | true =>
              have HN : Hid (nameP (c :: r) = some ([c], 1)) := Lib.hid (by rw [hdef, if_neg (by rw [b43, b45, q43, q45, hnc]; decide)])
              clear hdef
              go_enter Try.func40, Try.ntmps40
              go_wp2_with fail
              refine (one_spec c _).mono ?_
              rintro e w1 ⟨rfl, rfl⟩
              rw [hnc]
              go_wp2
              go_ret2
              exact ⟨rfl, .inr ⟨_, _, HN.out, by rw [HX.out]; rfl⟩⟩
set_option maxHeartbeats 1600000 in
theorem rname3 (s : ByteArray) (w : World) (hs : s.size ≤ 1000000) : Calls Try.prog 40 #[.string s, .int .i64 3] w (RNamePost ((bl s).drop 3) 3 w) := by
  cases hl : (bl s).drop 3 with
  | nil =>
    have i0 : (s.size : Int) ≤ 3 := by have := congrArg List.length hl; rw [List.length_drop, bl_len] at this; simp at this; omega
    have HN : Hid (nameP [] = none) := Lib.hid rfl
    clear hl
    go_enter Try.func40, Try.ntmps40
    go_wp2
    go_ret2
    exact ⟨rfl, .inl ⟨HN.out, rfl⟩⟩
  | cons c r =>
    have hz : s.size = r.length + 4 := by have := congrArg List.length hl; rw [List.length_drop, bl_len] at this; simp at this; omega
    have hget : ∀ j, (bl s)[3 + j]? = (c :: r)[j]? := fun j => by rw [← hl, List.getElem?_drop]
    have i0 : ¬ (s.size : Int) ≤ 3 := by omega
    obtain ⟨hp0, e0⟩ := bl_get (s := s) (i := 3) (c := c) (by rw [hget 0]; rfl)
    have HL := Lib.hid hl
    have HZ := Lib.hid hz
    have HG := Lib.hid hget
    clear hl hz hget
    cases q40 : ((c.toNat : Int) == 40) with
    | true =>
      match r, HL, HZ, HG with
      | [], HL, HZ, HG =>
        have i1 : ¬ (5 : Int) < (s.size : Int) := by have := HZ.out; simp at this; omega
        have HN : Hid (nameP [c] = none) := Lib.hid (by rw [nameP.eq_def]; dsimp only; rw [if_pos (b40 ▸ q40)])
        go_enter Try.func40, Try.ntmps40
        go_wp2
        go_ret2
        exact ⟨rfl, .inl ⟨HN.out, rfl⟩⟩
      | [a], HL, HZ, HG =>
        have i1 : ¬ (5 : Int) < (s.size : Int) := by have := HZ.out; simp at this; omega
        have HN : Hid (nameP [c, a] = none) := Lib.hid (by rw [nameP.eq_def]; dsimp only; rw [if_pos (b40 ▸ q40)])
        go_enter Try.func40, Try.ntmps40
        go_wp2
        go_ret2
        exact ⟨rfl, .inl ⟨HN.out, rfl⟩⟩
      | a :: b :: r', HL, HZ, HG =>
        have i1 : (5 : Int) < (s.size : Int) := by have := HZ.out; simp at this; omega
        have i2 : (4 : Int) < (s.size : Int) := by omega
        have i3 : 6 ≤ s.size := by omega
        have i4 : (6 : Int) ≤ (s.size : Int) := by omega
        obtain ⟨hp1, e1⟩ := bl_get (s := s) (i := 4) (c := a) (by rw [show 4 = 3 + 1 from rfl, HG.out]; rfl)
        obtain ⟨hp2, e2⟩ := bl_get (s := s) (i := 5) (c := b) (by rw [show 5 = 3 + 2 from rfl, HG.out]; rfl)
        have HX : Hid (s.extract 4 6 = ba [a, b]) := Lib.hid (ba_of (by rw [bl_extract, show (4 : Nat) = 3 + 1 from rfl, ← List.drop_drop, HL.out]; rfl))
        cases ha : isNm a with
        | false =>
          have HN : Hid (nameP (c :: a :: b :: r') = none) := Lib.hid (by rw [nameP.eq_def]; dsimp only; rw [if_pos (b40 ▸ q40), if_neg (by simp [ha])])
          go_enter Try.func40, Try.ntmps40
          go_wp2_with fail
          refine (one_spec a _).mono ?_
          rintro e w1 ⟨rfl, rfl⟩
          rw [ha]
          go_wp2
          go_ret2
          exact ⟨rfl, .inl ⟨HN.out, rfl⟩⟩
        | true =>
          cases hb : isNm b with
          | false =>
            have HN : Hid (nameP (c :: a :: b :: r') = none) := Lib.hid (by rw [nameP.eq_def]; dsimp only; rw [if_pos (b40 ▸ q40), if_neg (by simp [hb])])
            go_enter Try.func40, Try.ntmps40
            go_wp2_with fail
            refine (one_spec a _).mono ?_
            rintro e w1 ⟨rfl, rfl⟩
            rw [ha]
            go_wp2_with fail
            refine (one_spec b _).mono ?_
            rintro e w1 ⟨rfl, rfl⟩
            rw [hb]
            go_wp2
            go_ret2
            exact ⟨rfl, .inl ⟨HN.out, rfl⟩⟩
          | true =>
            have HN : Hid (nameP (c :: a :: b :: r') = some ([a, b], 3)) := Lib.hid (by rw [nameP.eq_def]; dsimp only; rw [if_pos (b40 ▸ q40), if_pos ⟨ha, hb⟩])
            go_enter Try.func40, Try.ntmps40
            go_wp2_with fail
            refine (one_spec a _).mono ?_
            rintro e w1 ⟨rfl, rfl⟩
            rw [ha]
            go_wp2_with fail
            refine (one_spec b _).mono ?_
            rintro e w1 ⟨rfl, rfl⟩
            rw [hb]
            go_wp2
            go_ret2
            exact ⟨rfl, .inr ⟨_, _, HN.out, by rw [HX.out]; rfl⟩⟩
    | false =>
      cases q91 : ((c.toNat : Int) == 91) with
      | true =>
        have hdef : nameP (c :: r) = if (nmTo r).length < r.length ∧ 1 ≤ (nmTo r).length ∧ (nmTo r).length ≤ 20 ∧ (nmTo r).all isNm then some (nmTo r, (nmTo r).length + 2) else none := by
          rw [nameP.eq_def]; dsimp only; rw [if_neg (by rw [b40, q40]; decide), if_pos (b91 ▸ q91)]
        have HD := Lib.hid hdef
        have hsz := HZ.out
        clear hdef
        go_enter Try.func40, Try.ntmps40
        go_wp2_with fail
        go_loopw [6] (fun v wr => wr = w ∧ ∃ (k : Nat), k ≤ r.length ∧ v = .int .i64 (4 + (k : Int)) ∧ (r.take k).all goOn = true) (fun v _ => r.length + 4 - (intOf v).toNat)
        case atStart => exact ⟨rfl, 0, Nat.zero_le _, rfl, rfl⟩
        case round =>
          obtain ⟨rfl, k, hk, rfl, ha⟩ := hrel
          by_cases hlt : k < r.length
          · obtain ⟨hi, hg⟩ := bl_get (s := s) (i := 4 + k) (c := r[k]) (by rw [show 4 + k = 3 + (k + 1) from by omega, HG.out, List.getElem?_cons_succ]; exact List.getElem?_eq_getElem hlt)
            have HT := Lib.hid (take_snoc hlt)
            have HA := Lib.hid ha
            have HS := Lib.hid (fun h => nmTo_stop hlt ha h)
            have HBD := Lib.hid (fun (h : isNm r[k] = false) => nmTo_bad hk ha (fun _ => h))
            generalize r[k] = c' at *
            have i1 : (4 : Int) + (k : Int) < (s.size : Int) := by omega
            have i1' : ¬ (s.size : Int) ≤ (4 : Int) + (k : Int) := by omega
            have i2 : (0 : Int) ≤ (4 : Int) + (k : Int) := by omega
            have i3 : ((4 : Int) + (k : Int)).toNat = 4 + k := by omega
            have i5 : (4 : Int) + (k : Int) ≤ (s.size : Int) := by omega
            clear ha
            cases hn : isNm c' with
            | false =>
              have n93 : ((c'.toNat : Int) != 93) = true := bneq ((byteNe (n := 93) (by omega)).1 (fun e => by subst e; cases hn))
              have HN : Hid (nameP (c :: r) = none) := Lib.hid (by rw [HD.out, if_neg (fun h => HBD.out hn ⟨h.1, h.2.2.2⟩)])
              go_wp2_with fail
              refine (one_spec c' _).mono ?_
              rintro e w1 ⟨rfl, rfl⟩
              rw [hn]
              go_wp2
              go_ret2
              exact ⟨rfl, .inl ⟨HN.out, rfl⟩⟩
            | true =>
              cases q93 : ((c'.toNat : Int) == 93) with
              | false =>
                have n93 := bneq q93
                have HGO : Hid (goOn c' = true) := Lib.hid (by unfold goOn; rw [hn, Bool.true_and, bne_iff_ne]; exact (byteNe (n := 93) (by omega)).2 q93)
                go_wp2_with fail
                refine (one_spec c' _).mono ?_
                rintro e w1 ⟨rfl, rfl⟩
                rw [hn]
                go_wp2_with fail
                go_roundw
                case rel => exact ⟨by trivial, k + 1, by omega, by go_num, by rw [HT.out, List.all_append, HA.out, List.all_cons, HGO.out]; rfl⟩
                case measure => simp [intOf]; omega
              | true =>
                have n93 := bneq q93
                obtain ⟨h1, h2, h3⟩ := HS.out ((byteEq (n := 93) (by omega)).2 q93)
                have HD2 := HD.out
                rw [h2, h3, h1] at HD2
                clear h1 h2 h3
                have HD3 := Lib.hid HD2
                clear HD2
                by_cases k0 : k = 0
                · subst k0
                  have HN : Hid (nameP (c :: r) = none) := Lib.hid (by rw [HD3.out, if_neg (fun h => by omega)])
                  go_wp2_with fail
                  refine (one_spec c' _).mono ?_
                  rintro e w1 ⟨rfl, rfl⟩
                  rw [hn]
                  go_wp2
                  go_ret2
                  exact ⟨rfl, .inl ⟨HN.out, rfl⟩⟩
                · have j1 : ((4 : Int) + (k : Int) == 4) = false := by rw [beq_eq_false_iff_ne]; omega
                  by_cases k20 : 20 < k
                  · have HN : Hid (nameP (c :: r) = none) := Lib.hid (by rw [HD3.out, if_neg (fun h => by omega)])
                    have j2 : (20 : Int) < (4 : Int) + (k : Int) - 3 - 1 := by omega
                    go_wp2_with fail
                    refine (one_spec c' _).mono ?_
                    rintro e w1 ⟨rfl, rfl⟩
                    rw [hn]
                    go_wp2
                    go_ret2
                    exact ⟨rfl, .inl ⟨HN.out, rfl⟩⟩
                  · have HN : Hid (nameP (c :: r) = some (r.take k, k + 2)) := Lib.hid (by rw [HD3.out, if_pos ⟨hlt, by omega, by omega, rfl⟩])
                    have j2 : ¬ (20 : Int) < (4 : Int) + (k : Int) - 3 - 1 := by omega
                    have j3 : (4 : Int) ≤ (4 : Int) + (k : Int) := by omega
                    have HX : Hid (s.extract 4 (4 + k) = ba (r.take k)) := Lib.hid (ba_of (by rw [bl_extract, Nat.add_sub_cancel_left, show (4 : Nat) = 3 + 1 from rfl, ← List.drop_drop, HL.out]; rfl))
                    go_wp2_with fail
                    refine (one_spec c' _).mono ?_
                    rintro e w1 ⟨rfl, rfl⟩
                    rw [hn]
                    go_wp2
                    go_ret2
                    exact ⟨rfl, .inr ⟨_, _, HN.out, ret_str2 HX.out (by omega)⟩⟩
          · have HN : Hid (nameP (c :: r) = none) := Lib.hid (by rw [HD.out, if_neg (fun h => nmTo_bad hk ha (fun h' => absurd h' hlt) ⟨h.1, h.2.2.2⟩)])
            have i1 : ¬ (4 : Int) + (k : Int) < (s.size : Int) := by omega
            have i2 : (s.size : Int) ≤ (4 : Int) + (k : Int) := by omega
            clear ha
            go_wp2
            go_ret2
            exact ⟨rfl, .inl ⟨HN.out, rfl⟩⟩
      | false =>
        have hdef : nameP (c :: r) = if c = 43 ∨ c = 45 ∨ isNm c = false then none else some ([c], 1) := by
          rw [nameP.eq_def]; dsimp only; rw [if_neg (by rw [b40, q40]; decide), if_neg (by rw [b91, q91]; decide)]
        have HX : Hid (s.extract 3 4 = ba [c]) := Lib.hid (ba_of (by rw [bl_extract, HL.out]; rfl))
        have i9 : 4 ≤ s.size := by have := HZ.out; omega
        have i8 : (4 : Int) ≤ (s.size : Int) := by omega
        cases q43 : ((c.toNat : Int) == 43) with
        | true =>
          have HN : Hid (nameP (c :: r) = none) := Lib.hid (by rw [hdef, if_pos (.inl (by rw [b43]; exact q43))])
          clear hdef
          go_enter Try.func40, Try.ntmps40
          go_wp2
          go_ret2
          exact ⟨rfl, .inl ⟨HN.out, rfl⟩⟩
        | false =>
          cases q45 : ((c.toNat : Int) == 45) with
          | true =>
            have HN : Hid (nameP (c :: r) = none) := Lib.hid (by rw [hdef, if_pos (.inr (.inl (by rw [b45]; exact q45)))])
            clear hdef
            go_enter Try.func40, Try.ntmps40
            go_wp2
            go_ret2
            exact ⟨rfl, .inl ⟨HN.out, rfl⟩⟩
          | false =>
            cases hnc : isNm c with
            | false =>
              have HN : Hid (nameP (c :: r) = none) := Lib.hid (by rw [hdef, if_pos (.inr (.inr hnc))])
              clear hdef
              go_enter Try.func40, Try.ntmps40
              go_wp2_with fail
              refine (one_spec c _).mono ?_
              rintro e w1 ⟨rfl, rfl⟩
              rw [hnc]
              go_wp2
              go_ret2
              exact ⟨rfl, .inl ⟨HN.out, rfl⟩⟩
            | true =>
              have HN : Hid (nameP (c :: r) = some ([c], 1)) := Lib.hid (by rw [hdef, if_neg (by rw [b43, b45, q43, q45, hnc]; decide)])
              clear hdef
              go_enter Try.func40, Try.ntmps40
              go_wp2_with fail
              refine (one_spec c _).mono ?_
              rintro e w1 ⟨rfl, rfl⟩
              rw [hnc]
              go_wp2
              go_ret2
              exact ⟨rfl, .inr ⟨_, _, HN.out, by rw [HX.out]; rfl⟩⟩
end Go.Proofs.Ytcahlfafadabaaa
