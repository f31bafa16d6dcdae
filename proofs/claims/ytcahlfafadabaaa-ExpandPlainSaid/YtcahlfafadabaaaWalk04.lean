/- expand.walk, expand.Plain. -/
import Derived.Test.YtcahlfafadabaaaPlainP04
import Derived.Test.YtcahlfafadabaaaExpand04b
import Derived.Test.YtcahlfafadabaaaBa04
namespace Go.Proofs.Ytcahlfafadabaaa
open Go.RowKit

theorem plF_eq : ∀ {f f2 : Nat} {s : Bs}, s.length < f → s.length < f2 → plF f s = plF f2 s := by
  intro f
  induction f with
  | zero => intro f2 s h; omega
  | succ f ih =>
    intro f2 s h h2
    obtain ⟨g, rfl⟩ : ∃ g, f2 = g + 1 := ⟨f2 - 1, by omega⟩
    rw [plF, plF]
    split
    · rfl
    · rename_i hs
      have := stepP_adv hs
      exact ih (by rw [List.length_drop]; omega) (by rw [List.length_drop]; omega)
    · rfl
    · rfl
def plP (s : Bs) : Bool := plF (s.length + 1) s
theorem plP_adv {s a : Bs} {n : Nat} (h : stepP false s = .adv a n) : plP s = plP (s.drop n) := by
  have h3 := stepP_adv h
  unfold plP
  rw [plF, h]
  exact plF_eq (by rw [List.length_drop]; omega) (by omega)
theorem plP_pre {r : Bs} : ∀ (p : Bs), (∀ c ∈ p, c ≠ 92) → plP (p ++ r) = plP r := by
  intro p
  induction p with
  | nil => intro _; rfl
  | cons c p ih =>
    intro h
    have : stepP false (c :: p ++ r) = .adv [c] 1 := by
      rw [List.cons_append, stepP.eq_def]; dsimp only; rw [if_pos (h c List.mem_cons_self)]
    rw [plP_adv this]
    exact ih (fun d hd => h d (List.mem_cons_of_mem _ hd))
theorem plP_ask {s : Bs} {q : AskR} {n : Nat} (h : stepP false s = .ask q n) : plP s = false := by unfold plP; rw [plF, h]
theorem plP_wid {s t : Bs} {n : Nat} (h : stepP false s = .wid t n) : plP s = false := by unfold plP; rw [plF, h]
theorem plP_one : plP [92] = true := rfl
theorem plP_rem {r : Bs} : plP (92 :: 34 :: r) = false := by unfold plP; rw [plF, step_rem]; rfl
theorem each_spec (b : Nat) (v : Bool) (W : World) (k sz st : Int) (t tx : ByteArray) (hb : W.heap[b]? = some (.cells #[.bool v] 4 (0, 0))) :
    Calls Try.prog 23 #[.agg #[.int .u8 k, .string t, .int .i64 st, .int .i64 sz], .string tx, .pointer (some ⟨b, 0, none⟩)] W fun e W' => e = .returned (.bool false) ∧ Keep [b] W W' ∧ W'.heap[b]? = some (.cells #[.bool true] 4 (0, 0)) := by
  have c0 := cellOf hb 0
  have f0 := frozOf hb
  have hlt : b < W.heap.size := (Array.getElem?_eq_some_iff.1 hb).1
  have HB := Lib.hid hb
  simp at c0
  clear hb
  go_enter Try.func23, Try.ntmps23
  go_wp2_with fail
  go_ret
  have hs := (Keep.setCell.setCell_size' W ⟨b, 0, none⟩ (.bool true))
  have h1 : (W.setCell ⟨b, 0, none⟩ (.bool true)).heap[b]? = some (.cells #[.bool true] 4 (0, 0)) := by
    simp only [World.setCell]
    rw [Array.getElem?_modify, if_pos rfl, HB.out]
    rfl
  have hB : Below (W.setCell ⟨b, 0, none⟩ (.bool true)).heap.size (W.setCell ⟨b, 0, none⟩ (.bool true)) ((W.setCell ⟨b, 0, none⟩ (.bool true)).alloc (.cells #[.int .u8 k, .string t, .int .i64 st, .int .i64 sz] 58)) := (Below.refl _ _).alloc (Nat.le_refl _) _
  exact ⟨rfl, ((Keep.refl _ _).setCell ⟨b, 0, none⟩ List.mem_cons_self _).of_below hB (by rw [hs]; exact Nat.le_refl _), by rw [hB.block b (by rw [hs]; exact hlt)]; exact h1⟩
def WalkPost (P : Bool) (b : Nat) (W : World) (e : Ending) (W' : World) : Prop := ∃ r a, e = .returned (.bool r) ∧ P = !(r || a) ∧ Keep [b] W W' ∧ W'.heap[b]? = some (.cells #[.bool a] 4 (0, 0))
def strN : Value → Nat
  | .string s => s.size
  | _ => 0
theorem WalkPost.quiet {P : Bool} {b : Nat} {W wr : World} {r : Bool} (hb : W.heap[b]? = some (.cells #[.bool false] 4 (0, 0))) (hB : Below W.heap.size W wr) (hP : P = !r) : WalkPost P b W (.returned (.bool r)) wr :=
  ⟨r, false, rfl, by rw [hP, Bool.or_false], (Keep.refl _ _).of_below hB (Nat.le_refl _), by rw [hB.block b (Array.getElem?_eq_some_iff.1 hb).1]; exact hb⟩
set_option maxHeartbeats 3200000 in
theorem walk_spec (b : Nat) (s : ByteArray) (W : World) (hb : W.heap[b]? = some (.cells #[.bool false] 4 (0, 0))) (hs : s.size ≤ 1000000) :
    Calls Try.prog 22 #[.string s, .func (.func 23) #[] #[.pointer (some ⟨b, 0, none⟩)]] W (WalkPost (plP (bl s)) b W) := by
  have hen := enters_of Try.func23 (by kernel_rfl) rfl
  obtain ⟨X, hX⟩ : ∃ X, plP (bl s) = X := ⟨_, rfl⟩
  rw [hX]
  have HX := Lib.hid hX
  have HBL := Lib.hid hb
  clear hX hb
  go_enter Try.func22, Try.ntmps22
  go_wp2_with fail
  go_loopw [0] (fun v wr => Below W.heap.size W wr ∧ ∃ s' : ByteArray, v = .string s' ∧ s'.size ≤ 1000000 ∧ plP (bl s') = X) (fun v _ => strN v)
  case atStart => exact ⟨Below.refl _ _, s, rfl, hs, HX.out⟩
  case round =>
    obtain ⟨hB, s', rfl, hs', hX'⟩ := hrel
    have HB := Lib.hid hB
    have HX1 := Lib.hid hX'
    clear hB hX'
    cases hl : bl s' with
    | nil =>
      have i0 : s'.toList.isEmpty = true := by rw [bl_empty, hl]; rfl
      have HE : Hid (WalkPost X b W (.returned (.bool false)) wr) := Lib.hid (.quiet HBL.out HB.out (by rw [← HX1.out, hl]; rfl))
      clear hl
      go_wp2_with fail
      go_ret
      exact HE.out
    | cons c0 r0 =>
      have i0 : s'.toList.isEmpty = false := by rw [bl_empty, hl]; rfl
      clear hl
      go_wp2_with fail
      refine (Try.strings_IndexByte s' 92 _).mono ?_
      rintro e wz ⟨rfl, rfl⟩
      rcases split92 (bl s') with ⟨hi, hp⟩ | ⟨p, r, hi, hp, hsp⟩
      · rw [show Lib.indexByte s'.data.toList (92 : Int).toNat.toUInt8 = -1 from hi]
        have HE : Hid (WalkPost X b W (.returned (.bool false)) wz) := Lib.hid (.quiet HBL.out HB.out (by rw [← HX1.out, ← List.append_nil (bl s'), plP_pre _ hp]; rfl))
        clear hi hp
        go_wp2_with fail
        go_ret
        exact HE.out
      · rw [show Lib.indexByte s'.data.toList (92 : Int).toNat.toUInt8 = (p.length : Int) from hi]
        obtain ⟨m, hm⟩ : ∃ m, p.length = m := ⟨_, rfl⟩
        rw [hm]
        have hlen : m + 1 ≤ s'.size := by rw [← bl_len, hsp, List.length_append, List.length_cons]; omega
        obtain ⟨s2, hs2⟩ : ∃ x, s'.extract m s'.size = x := ⟨_, rfl⟩
        have hb2 : bl s2 = 92 :: r := by rw [← hs2, bl_to_end, hsp, List.drop_left' hm]
        have hz2 : s2.size + m = s'.size := by rw [← bl_len, ← bl_len, hb2, hsp, List.length_append, hm]; omega
        have HX2 : Hid (plP (bl s2) = X) := Lib.hid (by rw [hb2, ← HX1.out, hsp, plP_pre _ hp])
        have HL2 := Lib.hid hb2
        have j1 : ¬ (m : Int) < 0 := by omega
        have j2 : (m : Int) ≤ (s'.size : Int) := by omega
        have j3 : (0 : Int) ≤ (m : Int) := by omega
        clear hi hp hsp hm hb2
        go_wp2_with fail
        refine (asks_spec s2 wz (by omega)).mono ?_
        rintro e w2 ⟨hb2, hcase⟩
        have HB2 := Lib.hid (HB.out.trans (hb2.mono HB.out.size))
        clear hb2
        rcases hcase with ⟨hn, k, st, sz, tq, rfl⟩ | ⟨q, n, tq, hq, htq, rfl⟩
        · have HN := Lib.hid hn
          have HB3' := Lib.hid (HB2.out.alloc HB2.out.size (.cells #[.int .u8 k, .string tq, .int .i64 st, .int .i64 sz] 58))
          clear hn
          go_wp2_with fail
          refine (width_spec s2 _ (by omega)).mono ?_
          rintro e w3 ⟨_, nq, rfl, hcase⟩
          have HB3 := Lib.hid (below_drewN HB3'.out nq)
          rcases hcase with ⟨hw, rfl⟩ | ⟨tx, n, tw, hw, htw, rfl⟩
          · have HW1 := Lib.hid hw
            clear hw
            cases r with
            | nil =>
              have k2 : ((s2.size : Int) == 1) = true := by rw [← bl_len, HL2.out]; rfl
              have HE : Hid (WalkPost X b W (.returned (.bool false)) _) := Lib.hid (.quiet HBL.out HB3.out (by rw [← HX2.out, HL2.out]; rfl))
              go_wp2_with fail
              go_ret
              exact HE.out
            | cons d r' =>
              have hzz : s2.size = r'.length + 2 := by rw [← bl_len, HL2.out]; rfl
              have k2 : ((s2.size : Int) == 1) = false := by rw [beq_eq_false_iff_ne]; omega
              have k3 : (1 : Int) ≤ (s2.size : Int) := by omega
              have k4 : (2 : Int) ≤ (s2.size : Int) := by omega
              have k5 : (1 : Int) < (s2.size : Int) := by omega
              obtain ⟨hp1, e1⟩ := bl_get (s := s2) (i := 1) (c := d) (by rw [HL2.out]; rfl)
              clear hzz
              cases q34 : ((d.toNat : Int) == 34) with
              | true =>
                have HE : Hid (WalkPost X b W (.returned (.bool true)) _) := Lib.hid (.quiet HBL.out HB3.out (by rw [← HX2.out, HL2.out, show d = 34 from (byteEq (n := 34) (by omega)).2 q34, plP_rem]; rfl))
                go_wp2_with fail
                go_ret
                exact HE.out
              | false =>
                have hd : d ≠ 34 := (byteNe (n := 34) (by omega)).2 q34
                have hst := step_rest (cp := false) hd (by rw [← HL2.out]; exact HN.out) (.inr (by rw [← HL2.out]; exact HW1.out))
                rw [← HL2.out, if_neg (by simp)] at hst
                have HST := Lib.hid hst
                clear hd hst
                go_wp2_with fail
                refine (Try.strings_IndexByte _ (d.toNat : Int) _).mono ?_
                rintro e wy ⟨rfl, rfl⟩
                rw [u8_back]
                by_cases h4 : d = 110 ∨ d = 42 ∨ d = 36 ∨ d = 119
                · obtain ⟨z, hz, hz0⟩ : ∃ z : Nat, Lib.indexByte (⟨#[110, 42, 36, 119]⟩ : ByteArray).data.toList d = (z : Int) ∧ z ≤ 4 := by
                    rcases h4 with rfl | rfl | rfl | rfl
                    · exact ⟨0, rfl, by omega⟩
                    · exact ⟨1, rfl, by omega⟩
                    · exact ⟨2, rfl, by omega⟩
                    · exact ⟨3, rfl, by omega⟩
                  have HS9 : Hid (stepP false (bl s2) = .adv [92] 1) := Lib.hid (by rw [HST.out, if_pos (h4.imp id (Or.imp id (Or.imp id (fun h => ⟨h, by trivial⟩))))])
                  rw [hz]
                  clear h4 hz
                  have hoy : bl (s2.extract 1 s2.size) = (bl s2).drop 1 := bl_to_end _ _
                  obtain ⟨y, hy⟩ : ∃ y, s2.extract 1 s2.size = y := ⟨_, rfl⟩
                  rw [hy] at hoy
                  have hyl : y.size < s'.size := by rw [← bl_len, hoy, List.length_drop, bl_len]; omega
                  have HY : Hid (plP (bl y) = X) := Lib.hid (by rw [hoy, ← plP_adv HS9.out, HX2.out])
                  clear hoy
                  go_wp2_with fail
                  go_roundw
                  case rel => exact ⟨HB3.out, y, rfl, by omega, HY.out⟩
                  case measure => exact hyl
                · have hz : Lib.indexByte (⟨#[110, 42, 36, 119]⟩ : ByteArray).data.toList d = -1 := by
                    have a1 : ((110 : UInt8) == d) = false := by simpa using fun h => h4 (.inl h.symm)
                    have a2 : ((42 : UInt8) == d) = false := by simpa using fun h => h4 (.inr (.inl h.symm))
                    have a3 : ((36 : UInt8) == d) = false := by simpa using fun h => h4 (.inr (.inr (.inl h.symm)))
                    have a4 : ((119 : UInt8) == d) = false := by simpa using fun h => h4 (.inr (.inr (.inr h.symm)))
                    simp [Lib.indexByte, a1, a2, a3, a4]
                  have HS9 : Hid (stepP false (bl s2) = .adv [92, d] 2) := Lib.hid (by rw [HST.out, if_neg (fun h => h4 (h.imp id (Or.imp id (Or.imp id (fun h => h.1)))))])
                  rw [hz]
                  clear h4 hz
                  have hoy : bl (s2.extract 2 s2.size) = (bl s2).drop 2 := bl_to_end _ _
                  obtain ⟨y, hy⟩ : ∃ y, s2.extract 2 s2.size = y := ⟨_, rfl⟩
                  rw [hy] at hoy
                  have hyl : y.size < s'.size := by rw [← bl_len, hoy, List.length_drop, bl_len]; omega
                  have HY : Hid (plP (bl y) = X) := Lib.hid (by rw [hoy, ← plP_adv HS9.out, HX2.out])
                  clear hoy
                  go_wp2_with fail
                  go_roundw
                  case rel => exact ⟨HB3.out, y, rfl, by omega, HY.out⟩
                  case measure => exact hyl
          · have hwl := widthP_le hw
            have hn4 : (0 : Int) < (n : Int) := by omega
            have HF : Hid (X = !(false || true)) := Lib.hid (by rw [← HX2.out, plP_wid (step_wid HN.out hw)]; rfl)
            clear hw htw
            go_wp2_with fail
            refine (each_spec b false _ _ _ _ _ _ (by rw [HB3.out.block b (Array.getElem?_eq_some_iff.1 HBL.out).1]; exact HBL.out)).mono ?_
            rintro e w9 ⟨rfl, hK9, hb9⟩
            have HE : Hid (WalkPost X b W (.returned (.bool false)) w9) := Lib.hid ⟨false, true, rfl, HF.out, ((Keep.refl [b] W).of_below HB3.out (Nat.le_refl _)).trans hK9 (fun x hx => .inl hx), hb9⟩
            clear hK9 hb9
            go_wp2_with fail
            go_ret
            exact HE.out
        · have HF : Hid (X = !(false || true)) := Lib.hid (by rw [← HX2.out, plP_ask (step_ask hq)]; rfl)
          have HB3 := Lib.hid (HB2.out.alloc HB2.out.size (.cells #[.int .u8 q.kind.toNat, .string tq, .int .i64 q.step, .int .i64 n] 58))
          clear hq htq
          go_wp2_with fail
          refine (each_spec b false _ _ _ _ _ _ (by rw [HB3.out.block b (Array.getElem?_eq_some_iff.1 HBL.out).1]; exact HBL.out)).mono ?_
          rintro e w9 ⟨rfl, hK9, hb9⟩
          have HE : Hid (WalkPost X b W (.returned (.bool false)) w9) := Lib.hid ⟨false, true, rfl, HF.out, ((Keep.refl [b] W).of_below HB3.out (Nat.le_refl _)).trans hK9 (fun x hx => .inl hx), hb9⟩
          clear hK9 hb9
          go_wp2_with fail
          go_ret
          exact HE.out
end Go.Proofs.Ytcahlfafadabaaa
