/- The reference's expand, walked: copying is true. -/
import Derived.Test.YtcahlfafadabaaaRExpB04
namespace Go.Proofs.Ytcahlfafadabaaa
open Go.RowKit

set_option maxRecDepth 100000 in
set_option maxHeartbeats 40000000 in
theorem rexpand_true (base : Nat) (W0 : World) (A : List ByteArray) (g : Nat) (hA : ∀ a ∈ A, a.size ≤ 100000) : ∀ (f left : Nat) (s : ByteArray) (W : World) (σ : List AskR) (T : List Nat) (p : Nat), f ≤ 5000000 → mu left (bl s) < f → left ≤ 500 → s.size ≤ 8000 → Cnt p left W → TelInv 38 base W0 A g W σ T → p ∉ T → base ≤ p → σ.length + left ≤ 1000 →
    Calls Try.prog 24 #[.pointer (some ⟨g, 0, none⟩), .string s, .bool true, .pointer (some ⟨p, 0, none⟩)] W (RxPost base W0 A g p W T f (exF true (ansOf A) f left (bl s) [] σ)) := by
  intro f
  induction f using Nat.strongRecOn with
  | _ f ih =>
  intro left s W σ T p hf5 hmu hleft hlen hC hI hp hbase hasks
  have hplt := hC.lt
  obtain ⟨RES, hres⟩ : ∃ r, exF true (ansOf A) f left (bl s) [] σ = r := ⟨_, rfl⟩
  rw [hres]
  have HX0 : Hid (RX base W0 A g true p W T RES f (bl s) (bl ⟨#[]⟩) left σ T W) := Lib.hid
    { fuel := hmu, left5 := hleft, run := hres, cnt := hC, inv := hI, pT := hp, sub := fun b hb => .inl hb, keep := Keep.refl _ _, asks := hasks, base_le := hbase, p_lt := hplt }
  have IH := Lib.hid ih
  clear ih hmu hleft hC hI hres hasks hp
  go_enter Try.func24, Try.ntmps24
  go_wp2_with fail
  go_loopg [1, 10] f (fun gf v1 v10 wr => RRel base W0 A g true p W T RES f gf v1 v10 wr)
  case atStart => exact ⟨s, ⟨#[]⟩, left, σ, T, rfl, rfl, Nat.le_refl _, by have : (⟨#[]⟩ : ByteArray).size = 0 := rfl; omega, HX0.out⟩
  case round =>
    obtain ⟨s', ob, left', σ', T', rfl, rfl, hgf, hroom, hX⟩ := hrel
    obtain ⟨g1, hg1⟩ : ∃ g1, gk = g1 + 1 := ⟨gk - 1, by have := hX.fuel; omega⟩
    subst hg1
    have HX := Lib.hid hX
    have HG := Lib.hid hgf
    have hs8 : s'.size ≤ 8000 := by omega
    have ho8 : ob.size ≤ 8000 := by omega
    clear hX hgf
    cases hl : bl s' with
    | nil =>
      have i0 : s'.toList.isEmpty = true := by rw [bl_empty, hl]; rfl
      have HE := Lib.hid (HX.out.finish (f := f) (ob := ob) (by rw [hl]; rfl) rfl)
      clear hl
      go_wp2_with fail
      go_ret2
      exact HE.out
    | cons c0 r0 =>
      have i0 : s'.toList.isEmpty = false := by rw [bl_empty, hl]; rfl
      have hz : s'.size = r0.length + 1 := by rw [← bl_len, hl]; rfl
      have i1 : (0 : Int) < (s'.size : Int) := by omega
      obtain ⟨hp0, e0⟩ := bl_get (s := s') (i := 0) (c := c0) (by rw [hl]; rfl)
      have HL := Lib.hid hl
      clear hl
      cases q92 : ((c0.toNat : Int) == 92) with
      | false =>
        have n92 := bneq q92
        clear hz
        have HS9 : Hid (stepP true (bl s') = .adv [c0] 1) := Lib.hid (by rw [HL.out, stepP.eq_def]; dsimp only; rw [if_pos (by rw [ne_eq, b92, q92]; simp)])
        have k3 : (1 : Int) ≤ (s'.size : Int) := by omega
        have k4 : 1 ≤ s'.size := by omega
        have hox : bl (ob ++ s'.extract 0 1) = bl ob ++ [c0] := by rw [bl_app, bl_extract, HL.out]; rfl
        have hoy : bl (s'.extract 1 s'.size) = (bl s').drop 1 := bl_to_end _ _
        obtain ⟨o2, ho2⟩ : ∃ o, ob ++ s'.extract 0 1 = o := ⟨_, rfl⟩
        obtain ⟨y, hy⟩ : ∃ y, s'.extract 1 s'.size = y := ⟨_, rfl⟩
        rw [ho2] at hox
        rw [hy] at hoy
        have hsz2 : o2.size + y.size ≤ 8000 := by rw [← bl_len, ← bl_len y, hox, hoy, List.length_append, List.length_drop, bl_len, bl_len]; simp; omega
        have HX2 := Lib.hid (HX.out.adv HS9.out hoy hox)
        clear hox hoy
        go_wp2_with fail
        go_roundg g1
        case measure => omega
        case rel => exact ⟨y, o2, _, _, _, rfl, rfl, by have := HG.out; omega, hsz2, HX2.out⟩
      | true =>
        have n92 := bneq q92
        have hc92 : c0 = 92 := by rw [b92]; exact q92
        cases r0 with
        | nil =>
          have k2 : ((s'.size : Int) == 1) = true := by rw [hz]; rfl
          have HC92 := Lib.hid hc92
          clear hz hc92
          have HS9 : Hid (stepP true (bl s') = .adv [c0] 1) := Lib.hid (by rw [HL.out, HC92.out]; rfl)
          have k3 : (1 : Int) ≤ (s'.size : Int) := by omega
          have k4 : 1 ≤ s'.size := by omega
          have hox : bl (ob ++ s'.extract 0 1) = bl ob ++ [c0] := by rw [bl_app, bl_extract, HL.out]; rfl
          have hoy : bl (s'.extract 1 s'.size) = (bl s').drop 1 := bl_to_end _ _
          obtain ⟨o2, ho2⟩ : ∃ o, ob ++ s'.extract 0 1 = o := ⟨_, rfl⟩
          obtain ⟨y, hy⟩ : ∃ y, s'.extract 1 s'.size = y := ⟨_, rfl⟩
          rw [ho2] at hox
          rw [hy] at hoy
          have hsz2 : o2.size + y.size ≤ 8000 := by rw [← bl_len, ← bl_len y, hox, hoy, List.length_append, List.length_drop, bl_len, bl_len]; simp; omega
          have HX2 := Lib.hid (HX.out.adv HS9.out hoy hox)
          clear hox hoy
          go_wp2_with fail
          go_roundg g1
          case measure => omega
          case rel => exact ⟨y, o2, _, _, _, rfl, rfl, by have := HG.out; omega, hsz2, HX2.out⟩
        | cons d r' =>
          have HL : Hid (bl s' = 92 :: d :: r') := Lib.hid (by rw [HL.out, hc92])
          have k2 : ((s'.size : Int) == 1) = false := by rw [beq_eq_false_iff_ne]; simp at hz; omega
          have k3 : (1 : Int) ≤ (s'.size : Int) := by omega
          have k5 : (1 : Int) < (s'.size : Int) := by simp at hz; omega
          have k4 : (2 : Int) ≤ (s'.size : Int) := by omega
          have k6 : 2 ≤ s'.size := by omega
          have k7 : 1 ≤ s'.size := by omega
          obtain ⟨hp1, e1⟩ := bl_get (s := s') (i := 1) (c := d) (by rw [HL.out]; rfl)
          clear hz hc92
          go_wp2_with fail
          refine (rwid_spec s' _ (by omega)).mono ?_
          rintro e w1 ⟨⟨nq, rfl⟩, hcw⟩
          obtain ⟨tw, nw, rfl, hcw2⟩ := rwid_one hcw
          have HX1 := Lib.hid (HX.out.below (below_drewN (Below.refl _ _) nq))
          have HCW := Lib.hid hcw2
          clear hcw hcw2
          go_wp2_with fail
          refine (at_spec s' _ (by omega)).mono ?_
          rintro e w2 ⟨hb2, hca⟩
          have HX2 := Lib.hid (HX1.out.below hb2)
          clear hb2
          rcases hca with ⟨hn, k, st, sz, tq, rfl⟩ | ⟨q, n, hq, rfl⟩
          · have HN := Lib.hid hn
            have HX3 := Lib.hid (HX2.out.below ((Below.refl w2.heap.size w2).alloc (Nat.le_refl _) (.cells #[.int .u8 k, .string tq, .int .i64 st, .int .i64 sz] 80)))
            clear hn
            cases q34 : ((d.toNat : Int) == 34) with
            | true =>
              have HE := Lib.hid (HX3.out.finish (f := f) (ob := ob) (by rw [HL.out, show d = 34 from (byteEq (n := 34) (by omega)).2 q34]; rfl) rfl)
              go_wp2_with fail
              go_ret2
              exact HE.out
            | false =>
              have HD34 : Hid (d ≠ 34) := Lib.hid ((byteNe (n := 34) (by omega)).2 q34)
              go_upto_region 21 with fail
              go_cut [85] from 18 to 174 (fun v wx => RX base W0 A g true p W T RES (g1 + 1) (bl s') (bl ob) left' σ' T' wx ∧ v = .bool (decide (0 < nw) && !true))
              case first =>
                by_cases hnw : 0 < nw
                · go_wp2_with fail
                  go_meet
                  case rel => exact ⟨HX3.out, by rw [decide_eq_true hnw]; rfl⟩
                · go_wp2_with fail
                  go_meet
                  case rel => exact ⟨HX3.out, by rw [decide_eq_false (by omega)]; rfl⟩
              case rest =>
                obtain ⟨hX3, rfl⟩ := hcut
                have HX3 := Lib.hid hX3
                clear hX3
                rw [Bool.not_true, Bool.and_false]
                have HST := Lib.hid (step_rest (cp := true) HD34.out (by rw [← HL.out]; exact HN.out) (.inl rfl))
                rw [← HL.out] at HST
                cases q92d : ((d.toNat : Int) == 92) with
                | true =>
                  have HS9 : Hid (stepP true (bl s') = .adv [d] 2) := Lib.hid (by rw [HST.out, if_pos ⟨rfl, .inl (by rw [b92]; exact q92d)⟩])
                  have hox : bl (ob ++ s'.extract 1 2) = bl ob ++ [d] := by rw [bl_app, bl_extract, HL.out]; rfl
                  have hoy : bl (s'.extract 2 s'.size) = (bl s').drop 2 := bl_to_end _ _
                  obtain ⟨o2, ho2⟩ : ∃ o, ob ++ s'.extract 1 2 = o := ⟨_, rfl⟩
                  obtain ⟨y, hy⟩ : ∃ y, s'.extract 2 s'.size = y := ⟨_, rfl⟩
                  rw [ho2] at hox
                  rw [hy] at hoy
                  have hsz2 : o2.size + y.size ≤ 8000 := by rw [← bl_len, ← bl_len y, hox, hoy, List.length_append, List.length_drop, bl_len, bl_len]; simp; omega
                  have k9 : ¬ (8000 : Int) < (o2.size : Int) + (y.size : Int) := by omega
                  have HX4 := Lib.hid (HX3.out.adv HS9.out hoy hox)
                  clear hox hoy
                  go_wp2_with fail
                  go_roundg g1
                  case measure => omega
                  case rel => exact ⟨y, o2, _, _, _, rfl, rfl, by have := HG.out; omega, hsz2, HX4.out⟩
                | false =>
                  cases q46 : ((d.toNat : Int) == 46) with
                  | true =>
                    have HS9 : Hid (stepP true (bl s') = .adv [d] 2) := Lib.hid (by rw [HST.out, if_pos ⟨rfl, .inr ((byteEq (n := 46) (by omega)).2 q46)⟩])
                    have hox : bl (ob ++ s'.extract 1 2) = bl ob ++ [d] := by rw [bl_app, bl_extract, HL.out]; rfl
                    have hoy : bl (s'.extract 2 s'.size) = (bl s').drop 2 := bl_to_end _ _
                    obtain ⟨o2, ho2⟩ : ∃ o, ob ++ s'.extract 1 2 = o := ⟨_, rfl⟩
                    obtain ⟨y, hy⟩ : ∃ y, s'.extract 2 s'.size = y := ⟨_, rfl⟩
                    rw [ho2] at hox
                    rw [hy] at hoy
                    have hsz2 : o2.size + y.size ≤ 8000 := by rw [← bl_len, ← bl_len y, hox, hoy, List.length_append, List.length_drop, bl_len, bl_len]; simp; omega
                    have k9 : ¬ (8000 : Int) < (o2.size : Int) + (y.size : Int) := by omega
                    have HX4 := Lib.hid (HX3.out.adv HS9.out hoy hox)
                    clear hox hoy
                    go_wp2_with fail
                    go_roundg g1
                    case measure => omega
                    case rel => exact ⟨y, o2, _, _, _, rfl, rfl, by have := HG.out; omega, hsz2, HX4.out⟩
                  | false =>
                    have hno : ¬ (true = true ∧ (d = 92 ∨ d = 46)) := by
                      rintro ⟨_, h | h⟩
                      · rw [b92, q92d] at h; cases h
                      · exact (byteNe (n := 46) (by omega)).2 q46 h
                    have HNO := Lib.hid hno
                    clear hno
                    cases q110 : ((d.toNat : Int) == 110) with
                    | true =>
                      have HS9 : Hid (stepP true (bl s') = .adv [92] 1) := Lib.hid (by rw [HST.out, if_neg HNO.out, if_pos (.inl (by rw [b110]; exact q110))])
                      have hox : bl (ob ++ s'.extract 0 1) = bl ob ++ [92] := by rw [bl_app, bl_extract, HL.out]; rfl
                      have hoy : bl (s'.extract 1 s'.size) = (bl s').drop 1 := bl_to_end _ _
                      obtain ⟨o2, ho2⟩ : ∃ o, ob ++ s'.extract 0 1 = o := ⟨_, rfl⟩
                      obtain ⟨y, hy⟩ : ∃ y, s'.extract 1 s'.size = y := ⟨_, rfl⟩
                      rw [ho2] at hox
                      rw [hy] at hoy
                      have hsz2 : o2.size + y.size ≤ 8000 := by rw [← bl_len, ← bl_len y, hox, hoy, List.length_append, List.length_drop, bl_len, bl_len]; simp; omega
                      have k9 : ¬ (8000 : Int) < (o2.size : Int) + (y.size : Int) := by omega
                      have HX4 := Lib.hid (HX3.out.adv HS9.out hoy hox)
                      clear hox hoy
                      go_wp2_with fail
                      go_roundg g1
                      case measure => omega
                      case rel => exact ⟨y, o2, _, _, _, rfl, rfl, by have := HG.out; omega, hsz2, HX4.out⟩
                    | false =>
                      cases q42 : ((d.toNat : Int) == 42) with
                      | true =>
                        have HS9 : Hid (stepP true (bl s') = .adv [92] 1) := Lib.hid (by rw [HST.out, if_neg HNO.out, if_pos (.inr (.inl (by rw [b42]; exact q42)))])
                        have hox : bl (ob ++ s'.extract 0 1) = bl ob ++ [92] := by rw [bl_app, bl_extract, HL.out]; rfl
                        have hoy : bl (s'.extract 1 s'.size) = (bl s').drop 1 := bl_to_end _ _
                        obtain ⟨o2, ho2⟩ : ∃ o, ob ++ s'.extract 0 1 = o := ⟨_, rfl⟩
                        obtain ⟨y, hy⟩ : ∃ y, s'.extract 1 s'.size = y := ⟨_, rfl⟩
                        rw [ho2] at hox
                        rw [hy] at hoy
                        have hsz2 : o2.size + y.size ≤ 8000 := by rw [← bl_len, ← bl_len y, hox, hoy, List.length_append, List.length_drop, bl_len, bl_len]; simp; omega
                        have k9 : ¬ (8000 : Int) < (o2.size : Int) + (y.size : Int) := by omega
                        have HX4 := Lib.hid (HX3.out.adv HS9.out hoy hox)
                        clear hox hoy
                        go_wp2_with fail
                        go_roundg g1
                        case measure => omega
                        case rel => exact ⟨y, o2, _, _, _, rfl, rfl, by have := HG.out; omega, hsz2, HX4.out⟩
                      | false =>
                        cases q36 : ((d.toNat : Int) == 36) with
                        | true =>
                          have HS9 : Hid (stepP true (bl s') = .adv [92] 1) := Lib.hid (by rw [HST.out, if_neg HNO.out, if_pos (.inr (.inr (.inl (by rw [b36]; exact q36))))])
                          have hox : bl (ob ++ s'.extract 0 1) = bl ob ++ [92] := by rw [bl_app, bl_extract, HL.out]; rfl
                          have hoy : bl (s'.extract 1 s'.size) = (bl s').drop 1 := bl_to_end _ _
                          obtain ⟨o2, ho2⟩ : ∃ o, ob ++ s'.extract 0 1 = o := ⟨_, rfl⟩
                          obtain ⟨y, hy⟩ : ∃ y, s'.extract 1 s'.size = y := ⟨_, rfl⟩
                          rw [ho2] at hox
                          rw [hy] at hoy
                          have hsz2 : o2.size + y.size ≤ 8000 := by rw [← bl_len, ← bl_len y, hox, hoy, List.length_append, List.length_drop, bl_len, bl_len]; simp; omega
                          have k9 : ¬ (8000 : Int) < (o2.size : Int) + (y.size : Int) := by omega
                          have HX4 := Lib.hid (HX3.out.adv HS9.out hoy hox)
                          clear hox hoy
                          go_wp2_with fail
                          go_roundg g1
                          case measure => omega
                          case rel => exact ⟨y, o2, _, _, _, rfl, rfl, by have := HG.out; omega, hsz2, HX4.out⟩
                        | false =>
                          cases q119 : ((d.toNat : Int) == 119) with
                          | true =>
                            have HS9 : Hid (stepP true (bl s') = .adv [92, d] 2) := Lib.hid (by rw [HST.out, if_neg HNO.out, if_neg (by rintro (h | h | h | h); (· rw [b110, q110] at h; cases h); (· rw [b42, q42] at h; cases h); (· rw [b36, q36] at h; cases h); (· exact absurd h.2 (by simp)))])
                            have hox : bl (ob ++ s'.extract 0 2) = bl ob ++ [92, d] := by rw [bl_app, bl_extract, HL.out]; rfl
                            have hoy : bl (s'.extract 2 s'.size) = (bl s').drop 2 := bl_to_end _ _
                            obtain ⟨o2, ho2⟩ : ∃ o, ob ++ s'.extract 0 2 = o := ⟨_, rfl⟩
                            obtain ⟨y, hy⟩ : ∃ y, s'.extract 2 s'.size = y := ⟨_, rfl⟩
                            rw [ho2] at hox
                            rw [hy] at hoy
                            have hsz2 : o2.size + y.size ≤ 8000 := by rw [← bl_len, ← bl_len y, hox, hoy, List.length_append, List.length_drop, bl_len, bl_len]; simp; omega
                            have k9 : ¬ (8000 : Int) < (o2.size : Int) + (y.size : Int) := by omega
                            have HX4 := Lib.hid (HX3.out.adv HS9.out hoy hox)
                            clear hox hoy
                            go_wp2_with fail
                            go_roundg g1
                            case measure => omega
                            case rel => exact ⟨y, o2, _, _, _, rfl, rfl, by have := HG.out; omega, hsz2, HX4.out⟩
                          | false =>
                            have HS9 : Hid (stepP true (bl s') = .adv [92, d] 2) := Lib.hid (by
                              rw [HST.out, if_neg HNO.out, if_neg]
                              rintro (h | h | h | h)
                              · rw [b110, q110] at h; cases h
                              · rw [b42, q42] at h; cases h
                              · rw [b36, q36] at h; cases h
                              · have h := h.1; rw [b119, q119] at h; cases h)
                            have hox : bl (ob ++ s'.extract 0 2) = bl ob ++ [92, d] := by rw [bl_app, bl_extract, HL.out]; rfl
                            have hoy : bl (s'.extract 2 s'.size) = (bl s').drop 2 := bl_to_end _ _
                            obtain ⟨o2, ho2⟩ : ∃ o, ob ++ s'.extract 0 2 = o := ⟨_, rfl⟩
                            obtain ⟨y, hy⟩ : ∃ y, s'.extract 2 s'.size = y := ⟨_, rfl⟩
                            rw [ho2] at hox
                            rw [hy] at hoy
                            have hsz2 : o2.size + y.size ≤ 8000 := by rw [← bl_len, ← bl_len y, hox, hoy, List.length_append, List.length_drop, bl_len, bl_len]; simp; omega
                            have k9 : ¬ (8000 : Int) < (o2.size : Int) + (y.size : Int) := by omega
                            have HX4 := Lib.hid (HX3.out.adv HS9.out hoy hox)
                            clear hox hoy
                            go_wp2_with fail
                            go_roundg g1
                            case measure => omega
                            case rel => exact ⟨y, o2, _, _, _, rfl, rfl, by have := HG.out; omega, hsz2, HX4.out⟩
          · have q34 : ((d.toNat : Int) == 34) = false := (byteNe (n := 34) (by omega)).1 (fun e => by rw [HL.out, show d = 34 from e, asks34] at hq; cases hq)
            have hql := asksP_le hq
            have hn2 : (n : Int) ≤ (s'.size : Int) := by rw [← bl_len]; omega
            have hn3 : (0 : Int) ≤ (n : Int) := by omega
            have hrun : (if left' = 0 then Res.fail σ' else if 8000 < (nxOut (ansOf A) q (bl ob)).length + (nxS (ansOf A) q ((bl s').drop n)).length then Res.fail (σ' ++ [q]) else exF true (ansOf A) g1 (left' - 1) (nxS (ansOf A) q ((bl s').drop n)) (nxOut (ansOf A) q (bl ob)) (σ' ++ [q])) = RES := by
              have := HX2.out.run
              rw [exF, step_ask hq] at this
              exact this
            have HRU := Lib.hid hrun
            have HSA := Lib.hid (fun v => HX2.out.setAlloc v (.cells #[.int .u8 q.kind.toNat, .string (ba q.name), .int .i64 q.step, .int .i64 n] 80))
            have cc := cellOf HX2.out.cnt 0
            have cf := frozOf HX2.out.cnt
            simp at cc
            have cc2 := fun v => cellOf (HSA.out v).2.1 0
            simp at cc2
            have hpl := HX2.out.cnt.lt
            have hpT := Lib.hid HX2.out.pT
            have hTl := Lib.hid (HX2.out.inv.lt (by decide))
            have hl5 := HX2.out.left5
            clear hrun hq
            rcases Nat.eq_zero_or_pos left' with rfl | hpos
            · have HE : Hid (RxPost base W0 A g p W T f RES (.returned (.tuple #[.string ⟨#[]⟩, .bool false])) ((w2.setCell ⟨p, 0, none⟩ (.int .i64 (-1))).alloc (.cells #[.int .u8 q.kind.toNat, .string (ba q.name), .int .i64 q.step, .int .i64 n] 80))) := Lib.hid
                (HX2.out.failed (HSA.out _).1 (HSA.out _).2.1 (HSA.out _).2.2.1 hpT.out (fun b hb => .inl hb) (by have := HG.out; omega) (by omega) (by rw [← HRU.out, if_pos rfl]))
              go_wp2_with fail
              go_ret2
              exact HE.out
            · obtain ⟨l, rfl⟩ : ∃ l, left' = l + 1 := ⟨left' - 1, by omega⟩
              have hl0 : ¬ (l : Int) < 0 := by omega
              have hl6 : (l : Int) ≤ 500 := by omega
              go_wp2_with fail
              refine (Answer_spec _ base W0 A g _ σ' T' q (HSA.out l).2.2.1 (by have := HX2.out.asks; omega) (by omega)).mono ?_
              rintro e w5 ⟨ta, T2, rfl, hta, hI5, hK5, hT5⟩
              have hblk := (hK5.block w2.heap.size (by rw [(HSA.out l).2.2.2.2]; omega) (fun h => by have := hTl.out _ h; omega)).trans (HSA.out l).2.2.2.1
              have hcn : Cnt p l w5 := (HSA.out l).2.1.of_block (hK5.block p (HSA.out l).2.1.lt hpT.out)
              have hp2 : p ∉ T2 := fun h => (hT5 p h).elim hpT.out (fun h2 => by rw [(HSA.out l).2.2.2.2] at h2; omega)
              have hT6 : ∀ b ∈ T2, b ∈ T' ∨ w2.heap.size ≤ b := fun b hb => (hT5 b hb).imp id (fun h => by rw [(HSA.out l).2.2.2.2] at h; omega)
              have hK6 := (HSA.out l).1.trans hK5 (fun b hb => .inl (List.mem_cons_of_mem _ hb))
              have d0 := cellOf hblk 0
              have d3 := cellOf hblk 3
              simp at d0 d3
              have HH := Lib.hid (And.intro hcn (And.intro hp2 (And.intro hT6 (And.intro hK6 hI5))))
              have HTA := Lib.hid hta
              have htl : ta.size ≤ 100000 := by rw [← bl_len, hta]; exact ansLen_le w2 hA q
              obtain ⟨x, hx⟩ : ∃ x, s'.extract n s'.size = x := ⟨_, rfl⟩
              have hbx : bl x = (bl s').drop n := by rw [← hx]; exact bl_to_end _ _
              have hxl : x.size ≤ 8000 := by rw [← bl_len, hbx, List.length_drop, bl_len]; omega
              have HBX := Lib.hid hbx
              have HRU2 : Hid (if 8000 < (nxOut (ansOf A) q (bl ob)).length + (nxS (ansOf A) q ((bl s').drop n)).length then RES = Res.fail (σ' ++ [q]) else exF true (ansOf A) g1 l (nxS (ansOf A) q ((bl s').drop n)) (nxOut (ansOf A) q (bl ob)) (σ' ++ [q]) = RES) := Lib.hid (by
                have := HRU.out
                rw [if_neg (by omega), Nat.add_sub_cancel] at this
                split at this
                · rw [if_pos ‹_›]; exact this.symm
                · rw [if_neg ‹_›]; exact this)
              clear hblk hcn hp2 hT5 hT6 hK6 hI5 hK5 hta hbx HRU cc2
              by_cases hk : q.kind = 110
              · have qk : ((q.kind.toNat : Int) == 110) = true := by rw [← b110]; exact hk
                obtain ⟨o2, ho2⟩ : ∃ o, ob ++ ta = o := ⟨_, rfl⟩
                have ho2l : o2.size ≤ 200000 := by rw [← ho2, ← bl_len, bl_app, List.length_append, bl_len, bl_len]; omega
                have hnS : nxS (ansOf A) q ((bl s').drop n) = bl x := (if_pos hk).trans HBX.out.symm
                have hnO : nxOut (ansOf A) q (bl ob) = bl o2 := (if_pos hk).trans (by rw [← ho2, bl_app, HTA.out])
                rw [hnS, hnO, bl_len, bl_len] at HRU2
                clear hnS hnO hk
                by_cases h8 : 8000 < (o2).size + (x).size
                · have h9 : (8000 : Int) < ((o2).size : Int) + ((x).size : Int) := by omega
                  have HE : Hid (RxPost base W0 A g p W T f RES (.returned (.tuple #[.string ⟨#[]⟩, .bool false])) w5) := Lib.hid (HX2.out.failed HH.out.2.2.2.1 HH.out.1 HH.out.2.2.2.2 HH.out.2.1 HH.out.2.2.1 (by omega) (by omega) (by have := HRU2.out; rwa [if_pos h8] at this))
                  clear h8
                  go_wp2_with fail
                  go_ret2
                  exact HE.out
                · have h9 : ¬ (8000 : Int) < ((o2).size : Int) + ((x).size : Int) := by omega
                  have HE : Hid (RX base W0 A g true p W T RES g1 (bl x) (bl o2) l (σ' ++ [q]) T2 w5) := Lib.hid (HX2.out.asked HH.out.2.2.2.1 HH.out.1 HH.out.2.2.2.2 HH.out.2.1 HH.out.2.2.1 (by omega) (by have := HX2.out.asks; rw [List.length_append, List.length_singleton]; omega) (by have := HX2.out.fuel; unfold mu at *; rw [bl_len] at *; omega) (by have := HRU2.out; rwa [if_neg h8] at this))
                  have hsz2 : (o2).size + (x).size ≤ 8000 := by omega
                  clear h8
                  go_wp2_with fail
                  go_roundg g1
                  case measure => omega
                  case rel => exact ⟨_, _, _, _, _, rfl, rfl, by have := HG.out; omega, hsz2, HE.out⟩
              · have qk : ((q.kind.toNat : Int) == 110) = false := by rw [← Bool.not_eq_true, ← b110]; exact hk
                obtain ⟨y, hy⟩ : ∃ o, ta ++ x = o := ⟨_, rfl⟩
                have hyl : y.size ≤ 200000 := by rw [← hy, ← bl_len, bl_app, List.length_append, bl_len, bl_len]; omega
                have hnS : nxS (ansOf A) q ((bl s').drop n) = bl y := (if_neg hk).trans (by rw [← hy, bl_app, HTA.out, HBX.out])
                have hnO : nxOut (ansOf A) q (bl ob) = bl ob := if_neg hk
                rw [hnS, hnO, bl_len, bl_len] at HRU2
                clear hnS hnO hk
                by_cases h8 : 8000 < (ob).size + (y).size
                · have h9 : (8000 : Int) < ((ob).size : Int) + ((y).size : Int) := by omega
                  have HE : Hid (RxPost base W0 A g p W T f RES (.returned (.tuple #[.string ⟨#[]⟩, .bool false])) w5) := Lib.hid (HX2.out.failed HH.out.2.2.2.1 HH.out.1 HH.out.2.2.2.2 HH.out.2.1 HH.out.2.2.1 (by omega) (by omega) (by have := HRU2.out; rwa [if_pos h8] at this))
                  clear h8
                  go_wp2_with fail
                  go_ret2
                  exact HE.out
                · have h9 : ¬ (8000 : Int) < ((ob).size : Int) + ((y).size : Int) := by omega
                  have HE : Hid (RX base W0 A g true p W T RES g1 (bl y) (bl ob) l (σ' ++ [q]) T2 w5) := Lib.hid (HX2.out.asked HH.out.2.2.2.1 HH.out.1 HH.out.2.2.2.2 HH.out.2.1 HH.out.2.2.1 (by omega) (by have := HX2.out.asks; rw [List.length_append, List.length_singleton]; omega) (by have := HX2.out.fuel; unfold mu at *; rw [bl_len] at *; omega) (by have := HRU2.out; rwa [if_neg h8] at this))
                  have hsz2 : (ob).size + (y).size ≤ 8000 := by omega
                  clear h8
                  go_wp2_with fail
                  go_roundg g1
                  case measure => omega
                  case rel => exact ⟨_, _, _, _, _, rfl, rfl, by have := HG.out; omega, hsz2, HE.out⟩
end Go.Proofs.Ytcahlfafadabaaa
