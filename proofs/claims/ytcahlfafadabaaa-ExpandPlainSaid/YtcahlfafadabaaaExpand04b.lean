/- (*reader).expand, walked. -/
import Derived.Test.YtcahlfafadabaaaExpand04
namespace Go.Proofs.Ytcahlfafadabaaa
open Go.RowKit

theorem step_ask {cp : Bool} {s : Bs} {q : AskR} {n : Nat} (h : asksP s = some (q, n)) : stepP cp s = .ask q n := by
  match s, h with
  | a :: k :: c :: r, h =>
    have h0 := h
    rw [asksP] at h
    split at h
    · rename_i hk
      obtain ⟨rfl, hk⟩ := hk
      rw [stepP.eq_def]
      dsimp only
      rw [if_neg (by simp), if_neg (by rcases hk with rfl | rfl | rfl <;> decide), h0]
    · cases h
theorem step_wid {s t : Bs} {n : Nat} (h0 : asksP s = none) (h : widthP s = some (t, n)) : stepP false s = .wid t n := by
  match s, h0, h with
  | a :: b :: q :: r, h0, h =>
    have h1 := h
    rw [widthP] at h
    split at h
    · rename_i hk
      obtain ⟨rfl, rfl, _⟩ := hk
      rw [stepP.eq_def]
      dsimp only
      rw [if_neg (by simp), if_neg (by decide), h0]
      dsimp only
      rw [if_neg (by simp), h1]
    · cases h
theorem step_one {cp : Bool} : stepP cp [92] = .adv [92] 1 := rfl
theorem step_rem {cp : Bool} {r : Bs} : stepP cp (92 :: 34 :: r) = .fin := rfl
theorem step_rest {cp : Bool} {d : UInt8} {r : Bs} (hd : d ≠ 34) (h0 : asksP (92 :: d :: r) = none) (h1 : cp = true ∨ widthP (92 :: d :: r) = none) :
    stepP cp (92 :: d :: r) = if cp = true ∧ (d = 92 ∨ d = 46) then .adv [d] 2 else if d = 110 ∨ d = 42 ∨ d = 36 ∨ (d = 119 ∧ cp = false) then .adv [92] 1 else .adv [92, d] 2 := by
  rw [stepP.eq_def]
  dsimp only
  rw [if_neg (by simp), if_neg hd, h0]
  dsimp only
  have : (if cp = true then none else widthP (92 :: d :: r)) = none := by
    rcases h1 with h | h
    · rw [if_pos h]
    · rw [h]; split <;> rfl
  rw [this]
theorem ExAt.finish {base : Nat} {L : Lk base} {cp : Bool} {br : Nat} {W : World} {T : List Nat} {r : Res} {gf : Nat} {s : ByteArray} {out : Bs} {left : Nat} {σ : List AskR} {T' : List Nat} {wr w1 : World} (h : ExAt L cp br W T r gf s out left σ T' wr)
    {r2 : Res} (hr : r2 = .done out left σ) (hb : Below W.heap.size wr w1) (hk : OK8 W.heap.size wr w1) : ExPost L cp br W T r2 (.returned (.string ⟨out.toArray⟩)) w1 :=
  ⟨h.keep.of_below hb (Nat.le_refl _), T', h.brT, h.sub, .inl ⟨out, left, σ, _, hr, by simp [bl], rfl, h.rd.of_block (hb.block br h.br_lt), inv_write h.inv hb hk h.bT (by have := h.base_le; have := h.br_lt; omega)⟩⟩
theorem ExAt.failed {base : Nat} {L : Lk base} {cp : Bool} {br : Nat} {W : World} {T : List Nat} {r : Res} {gf : Nat} {s : ByteArray} {out : Bs} {left : Nat} {σ : List AskR} {T' : List Nat} {wr : World} (h : ExAt L cp br W T r gf s out left σ T' wr)
    {r2 : Res} (hr : r2 = .fail σ) : ExPost L cp br W T r2 (.panicked [{ v := limitV, recovered := false }]) wr :=
  ⟨h.keep, T', h.brT, h.sub, .inr ⟨σ, hr, rfl, h.inv⟩⟩
/-- A text's first backslash. -/
theorem split92 (l : Bs) : (Lib.indexByte l 92 = -1 ∧ ∀ c ∈ l, c ≠ 92) ∨ ∃ (p r : Bs), Lib.indexByte l 92 = (p.length : Int) ∧ (∀ c ∈ p, c ≠ 92) ∧ l = p ++ 92 :: r := by
  induction l with
  | nil => left; exact ⟨rfl, fun c h => by cases h⟩
  | cons b l ih =>
    unfold Lib.indexByte
    by_cases h : b = 92
    · subst h
      right; exact ⟨[], l, by simp, (fun c h => by cases h), rfl⟩
    · have h1 : (b == 92) = false := by simpa using h
      simp only [h1, Bool.false_eq_true, if_false]
      rcases ih with ⟨e, hl⟩ | ⟨p, r, e, hl, hs⟩
      · left; rw [e]
        refine ⟨rfl, fun c hc => ?_⟩
        rcases List.mem_cons.1 hc with rfl | hc
        · exact h
        · exact hl c hc
      · right
        have : (Lib.indexByte l 92 == -1) = false := by rw [e]; simp
        rw [this]
        refine ⟨b :: p, r, by rw [e]; simp, fun c hc => ?_, by rw [hs]; rfl⟩
        rcases List.mem_cons.1 hc with rfl | hc
        · exact h
        · exact hl c hc
theorem bl_app (a b : ByteArray) : bl (a ++ b) = bl a ++ bl b := by simp [bl]
theorem infoBld : (Try.prog.info? 66).map (fun i => (i.zero, i.size, i.bytes)) = some (some (.agg #[.pointer none, .slice none 0 0]), 2, 32) := by kernel_rfl
set_option maxRecDepth 100000 in
set_option maxHeartbeats 40000000 in
theorem expand_spec {base : Nat} (L : Lk base) (cp : Bool) : ∀ (f left : Nat) (s : ByteArray) (W : World) (σ : List AskR) (T : List Nat) (br : Nat), mu left (bl s) < f → left ≤ 500 → (bl s).length ≤ 8000 → RdAt L br cp (500 - left) W → L.Inv W σ T → br ∉ T → base ≤ br → σ.length + left ≤ 1000 →
    Calls Try.prog 20 #[.pointer (some ⟨br, 0, none⟩), .string s] W (ExPost L cp br W T (exF cp L.ans f left (bl s) [] σ)) := by
  intro f
  induction f using Nat.strongRecOn with
  | _ f ih =>
  intro left s W σ T br hmu hleft hlen hR hI hbr hbase hasks
  have hbrlt := hR.lt
  obtain ⟨RES, hres⟩ : ∃ r, exF cp L.ans f left (bl s) [] σ = r := ⟨_, rfl⟩
  rw [hres]
  have hX0 : ExAt L cp br W T RES f s [] left σ T (W.alloc (.cells #[.pointer none, .slice none 0 0] 66)) :=
    { fuel := hmu, left5 := hleft, run := hres, bld := IsB.fresh W _ rfl, rd := hR.of_block (((Below.refl W.heap.size W).alloc (Nat.le_refl _) _).block br hbrlt),
      inv := inv_below hI ((Below.refl _ _).alloc (Nat.le_refl _) _) (by omega), brT := hbr, bT := fun h => by have := (L.blocks hI _ h).2.1; omega, sub := fun b hb => .inl hb,
      keep := (Keep.refl _ _).of_below ((Below.refl _ _).alloc (Nat.le_refl _) _) (Nat.le_refl _), asks := hasks, base_le := hbase, br_lt := hbrlt }
  have HX0 := Lib.hid hX0
  have IH := Lib.hid ih
  clear hX0 ih hmu hleft hR hI hres hasks
  go_enter Try.func20, Try.ntmps20
  go_wp2_with fail
  go_loopg [1] f (fun gf v wr => ExRel L cp br W T RES f gf v wr)
  case atStart => exact ⟨s, [], left, σ, T, rfl, Nat.le_refl _, by simpa using hlen, HX0.out⟩
  case round =>
    obtain ⟨s', out, left', σ', T', rfl, hgf, hroom, hX⟩ := hrel
    have HX := Lib.hid hX
    have hsz : s'.size ≤ 8000 := by rw [← bl_len]; omega
    clear hX
    cases hl : bl s' with
    | nil =>
      have i0 : s'.toList.isEmpty = true := by rw [bl_empty, hl]; rfl
      have HD : Hid (RES = .done out left' σ') := Lib.hid (by
        obtain ⟨g, hg⟩ : ∃ g, gk = g + 1 := ⟨gk - 1, by have := HX.out.fuel; omega⟩
        rw [← HX.out.run, hl, hg]; rfl)
      clear hl
      go_wp2_with fail
      refine (Try.Builder_String_any_k W.heap.size W.heap.size out wr HX.out.bld (by have := HX.out.keep.size; omega)).mono ?_
      rintro e w1 ⟨rfl, _, hb1, hk1⟩
      have HE := Lib.hid (HX.out.finish HD.out hb1 hk1)
      clear hb1 hk1
      go_wp2_with fail
      go_ret
      exact HE.out
    | cons c0 r0 =>
      have i0 : s'.toList.isEmpty = false := by rw [bl_empty, hl]; rfl
      clear hl
      go_wp2_with fail
      refine (Try.strings_IndexByte s' 92 _).mono ?_
      rintro e wz ⟨rfl, rfl⟩
      rcases split92 (bl s') with ⟨hi, hp⟩ | ⟨p, r, hi, hp, hsp⟩
      · rw [show Lib.indexByte s'.data.toList (92 : Int).toNat.toUInt8 = -1 from hi]
        have HD : Hid (RES = .done (out ++ bl s') left' σ') := Lib.hid (by
          have hf := HX.out.fuel
          unfold mu at hf
          obtain ⟨g, hg⟩ : ∃ g, gk = (bl s').length + (g + 1) := ⟨gk - (bl s').length - 1, by omega⟩
          have := exF_plain (cp := cp) (A := L.ans) (left := left') (s := []) (σ := σ') (bl s') out (g + 1) hp
          rw [List.append_nil, ← hg, HX.out.run] at this
          rw [this]; rfl)
        clear hi hp
        go_wp2_with fail
        refine (bWriteString W.heap.size W.heap.size _ s' _ HX.out.bld (by rw [Lib.byteCells_length]; omega) (by have := HX.out.keep.size; omega)).mono ?_
        rintro e w1 ⟨rfl, hB1, hb1, hk1⟩
        rw [Lib.strCells_eq, ← Lib.byteCells_append] at hB1
        have HB1 := Lib.hid hB1
        have HS1 := Lib.hid (And.intro hb1 hk1)
        have hz1 := hb1.size
        clear hB1 hb1 hk1
        go_wp2_with fail
        refine (Try.Builder_String_any_k W.heap.size W.heap.size (out ++ bl s') w1 (.inr HB1.out) (by have := HX.out.keep.size; omega)).mono ?_
        rintro e w2 ⟨rfl, _, hb2, hk2⟩
        have HE := Lib.hid (ExAt.finish (HX.out.wrote (r' := RES) (gf' := mu left' (bl ⟨#[]⟩) + 1) (s' := ⟨#[]⟩) HB1.out HS1.out.1 HS1.out.2 (by omega) (by rw [HD.out]; rfl)) HD.out hb2 hk2)
        clear hb2 hk2
        go_wp2_with fail
        go_ret
        exact HE.out
      · rw [show Lib.indexByte s'.data.toList (92 : Int).toNat.toUInt8 = (p.length : Int) from hi]
        obtain ⟨m, hm⟩ : ∃ m, p.length = m := ⟨_, rfl⟩
        rw [hm]
        have hlen : m + 1 ≤ s'.size := by rw [← bl_len, hsp, List.length_append, List.length_cons]; omega
        have HX1 : Hid (bl (s'.extract 0 m) = p) := Lib.hid (by rw [bl_extract, hsp, List.drop_zero, Nat.sub_zero, List.take_left' hm])
        have HX2 : Hid (bl (s'.extract m s'.size) = 92 :: r) := Lib.hid (by rw [bl_to_end, hsp, List.drop_left' hm])
        have hf := HX.out.fuel
        have hfl : (bl s').length = m + (r.length + 1) := by rw [hsp, List.length_append, List.length_cons, hm]
        unfold mu at hf
        rw [hfl] at hf
        have hrun : exF cp L.ans (gk - m) left' (92 :: r) (out ++ p) σ' = RES := by
          have := exF_plain (cp := cp) (A := L.ans) (left := left') (s := 92 :: r) (σ := σ') p out (gk - m) hp
          rw [hm, show m + (gk - m) = gk from by omega, ← hsp, HX.out.run] at this
          exact this.symm
        have HRUN := Lib.hid hrun
        have HM := Lib.hid (And.intro hm (And.intro hf hfl))
        have j1 : ¬ (m : Int) < 0 := by omega
        have j2 : (m : Int) ≤ (s'.size : Int) := by omega
        have j3 : (0 : Int) ≤ (m : Int) := by omega
        clear hi hp hsp hm hf hfl hrun
        go_wp2_with fail
        refine (bWriteString W.heap.size W.heap.size _ _ _ HX.out.bld (by rw [Lib.byteCells_length, ← bl_len, HX1.out]; have := HM.out.1; omega) (by have := HX.out.keep.size; omega)).mono ?_
        rintro e w1 ⟨rfl, hB1, hb1, hk1⟩
        rw [Lib.strCells_eq, ← Lib.byteCells_append, show (s'.extract 0 m).data.toList = p from HX1.out] at hB1
        have hX1 : ExAt L cp br W T RES (gk - m) (s'.extract m s'.size) (out ++ p) left' σ' T' w1 :=
          HX.out.wrote hB1 hb1 hk1 (by rw [HX2.out]; have := HM.out.2.1; unfold mu; simp only [List.length_cons]; omega) (by rw [HX2.out]; exact HRUN.out)
        obtain ⟨o2, ho2⟩ : ∃ o, out ++ p = o := ⟨_, rfl⟩
        rw [ho2] at hX1
        have HO2 := Lib.hid ho2
        clear ho2
        have HY1 := Lib.hid hX1
        obtain ⟨s2, hs2⟩ : ∃ x, s'.extract m s'.size = x := ⟨_, rfl⟩
        have HS2 := Lib.hid hs2
        clear hB1 hb1 hk1 hX1
        go_wp2_with fail
        rw [hs2] at HX2 HY1
        have hz2 : s2.size ≤ 8000 := by have := HM.out; rw [← bl_len, HX2.out, List.length_cons]; omega
        have hro : o2.length + (bl s2).length ≤ 8000 := by have := HM.out; rw [← HO2.out, HX2.out, List.length_append, List.length_cons]; omega
        clear hs2
        refine (asks_spec s2 w1 (by omega)).mono ?_
        rintro e w2 ⟨hb2, hcase⟩
        have HY2 := Lib.hid (HY1.out.below hb2)
        clear hb2
        rcases hcase with ⟨hn, k, st, sz, tq, rfl⟩ | ⟨q, n, tq, hq, htq, rfl⟩
        · have HN := Lib.hid hn
          have HY3 := Lib.hid (HY2.out.below ((Below.refl w2.heap.size w2).alloc (Nat.le_refl _) (.cells #[.int .u8 k, .string tq, .int .i64 st, .int .i64 sz] 58)))
          obtain ⟨g, hg⟩ : ∃ g, gk - m = g + 1 := ⟨gk - m - 1, by have := HY2.out.fuel; omega⟩
          have hmu2 := HY2.out.fuel
          have HG := Lib.hid (And.intro hg hmu2)
          have HRUN4 : Hid (exF cp L.ans (g + 1) left' (bl s2) o2 σ' = RES) := Lib.hid (by rw [← hg]; exact HY2.out.run)
          clear hn hg hmu2
          go_wp2_with fail
          refine (width_spec s2 _ (by omega)).mono ?_
          rintro e w3 ⟨_, nq, rfl, hcase⟩
          have HY4 := Lib.hid (HY3.out.below (below_drewN (Below.refl _ _) nq))
          rcases hcase with ⟨hw, rfl⟩ | ⟨tx, n, tw, hw, htw, rfl⟩
          · have HW1 : Hid (cp = true ∨ widthP (bl s2) = none) := Lib.hid (.inr hw)
            clear hw
            have cc := cellOf HY4.out.rd 1
            simp at cc
            rcases Bool.eq_false_or_eq_true cp with hcp | hcp
            · rw [hcp] at cc
              have HCP := Lib.hid hcp
              clear hcp
              cases r with
              | nil =>
                have hs1 : s2.size = 1 := by rw [← bl_len, HX2.out]; rfl
                have HS2L : Hid (1 ≤ (bl s2).length) := Lib.hid (by rw [HX2.out]; simp)
                have k1 : ¬ (1 : Int) < (s2.size : Int) := by omega
                have k2 : ((s2.size : Int) == 1) = true := by rw [hs1]; rfl
                have k3 : (1 : Int) ≤ (s2.size : Int) := by omega
                clear hs1
                have HADV : Hid (exF cp L.ans g left' ((bl s2).drop 1) (o2 ++ [92]) σ' = RES) := Lib.hid (by
                  have := HRUN4.out
                  rw [exF, HX2.out, step_one] at this
                  rw [HX2.out]
                  exact this)
                go_wp2_with fail
                refine (bWriteByte W.heap.size W.heap.size _ 92 _ HY4.out.bld (by rw [Lib.byteCells_length]; omega) (by have := HY4.out.keep.size; omega)).mono ?_
                rintro e w5 ⟨rfl, hB5, hb5, hk5⟩
                skip
                have hX5 : ExAt L cp br W T RES g (s2.extract 1 s2.size) (o2 ++ [92]) left' σ' T' w5 := HY4.out.wrote (by rw [Lib.byteCells_append]; exact hB5) hb5 hk5
                  (by have := HG.out; have e := HS2L.out; unfold mu at *; rw [bl_to_end, List.length_drop]; omega) (by rw [bl_to_end]; exact HADV.out)
                have HE := Lib.hid hX5
                have HRR : Hid ((o2 ++ [92]).length + (bl (s2.extract 1 s2.size)).length ≤ 8000) := Lib.hid (by have e := HS2L.out; rw [bl_to_end, List.length_drop, List.length_append]; simp only [List.length_cons, List.length_nil]; omega)
                clear hB5 hb5 hk5 hX5
                go_wp2_with fail
                go_roundg g
                case measure => have := HG.out; omega
                case rel => exact ⟨_, _, _, _, _, rfl, by have := HG.out; omega, HRR.out, HE.out⟩
              | cons d r' =>
                have hs1 : s2.size = r'.length + 2 := by rw [← bl_len, HX2.out]; rfl
                have HS2L : Hid (2 ≤ (bl s2).length) := Lib.hid (by rw [HX2.out]; simp)
                have k1 : (1 : Int) < (s2.size : Int) := by omega
                have k2 : ((s2.size : Int) == 1) = false := by rw [beq_eq_false_iff_ne]; omega
                have k3 : (1 : Int) ≤ (s2.size : Int) := by omega
                have k4 : (2 : Int) ≤ (s2.size : Int) := by omega
                have k5 : 2 ≤ s2.size := by omega
                obtain ⟨hp1, e1⟩ := bl_get (s := s2) (i := 1) (c := d) (by rw [HX2.out]; rfl)
                clear hs1
                cases q34 : ((d.toNat : Int) == 34) with
                | true =>
                  have hd : d = 34 := (byteEq (n := 34) (by omega)).2 q34
                  have HD : Hid (RES = .done o2 left' σ') := Lib.hid (by
                    have := HRUN4.out
                    rw [exF, HX2.out, hd, step_rem] at this
                    exact this.symm)
                  clear hd
                  go_wp2_with fail
                  refine (Try.Builder_String_any_k W.heap.size W.heap.size o2 _ HY4.out.bld (by have := HY4.out.keep.size; omega)).mono ?_
                  rintro e w5 ⟨rfl, _, hb5, hk5⟩
                  have HE := Lib.hid (HY4.out.finish HD.out hb5 hk5)
                  clear hb5 hk5
                  go_wp2_with fail
                  go_ret
                  exact HE.out
                | false =>
                  have hd : d ≠ 34 := (byteNe (n := 34) (by omega)).2 q34
                  have HST := Lib.hid (step_rest hd (by have := HN.out; rw [HX2.out] at this; exact this) (by have := HW1.out; rw [HX2.out] at this; exact this))
                  clear hd
                  cases q110 : ((d.toNat : Int) == 110) with
                  | true =>
                    have hd : d = 110 := by rw [b110]; exact q110
                    have HI : Hid (Lib.indexByte [110, 42, 36] d = 0) := Lib.hid (by rw [hd]; rfl)
                    have HS9 : Hid (stepP cp (92 :: d :: r') = .adv [92] 1) := Lib.hid (by rw [HST.out, if_neg (by rw [hd]; simp), if_pos (.inl hd)])
                    clear hd
                    go_wp2_with fail
                    refine (Try.strings_IndexByte _ (d.toNat : Int) _).mono ?_
                    rintro e wz ⟨rfl, rfl⟩
                    rw [u8_back, show Lib.indexByte (⟨#[110, 42, 36]⟩ : ByteArray).data.toList d = 0 from HI.out]
                    have HADV : Hid (exF cp L.ans g left' ((bl s2).drop 1) (o2 ++ [92]) σ' = RES) := Lib.hid (by
                      have := HRUN4.out
                      rw [exF, HX2.out, HS9.out] at this
                      rw [HX2.out]
                      exact this)
                    go_wp2_with fail
                    refine (bWriteByte W.heap.size W.heap.size _ 92 _ HY4.out.bld (by rw [Lib.byteCells_length]; omega) (by have := HY4.out.keep.size; omega)).mono ?_
                    rintro e w5 ⟨rfl, hB5, hb5, hk5⟩
                    skip
                    have hX5 : ExAt L cp br W T RES g (s2.extract 1 s2.size) (o2 ++ [92]) left' σ' T' w5 := HY4.out.wrote (by rw [Lib.byteCells_append]; exact hB5) hb5 hk5
                      (by have := HG.out; have e := HS2L.out; unfold mu at *; rw [bl_to_end, List.length_drop]; omega) (by rw [bl_to_end]; exact HADV.out)
                    have HE := Lib.hid hX5
                    have HRR : Hid ((o2 ++ [92]).length + (bl (s2.extract 1 s2.size)).length ≤ 8000) := Lib.hid (by have e := HS2L.out; rw [bl_to_end, List.length_drop, List.length_append]; simp only [List.length_cons, List.length_nil]; omega)
                    clear hB5 hb5 hk5 hX5
                    go_wp2_with fail
                    go_roundg g
                    case measure => have := HG.out; omega
                    case rel => exact ⟨_, _, _, _, _, rfl, by have := HG.out; omega, HRR.out, HE.out⟩
                  | false =>
                    cases q42 : ((d.toNat : Int) == 42) with
                    | true =>
                      have hd : d = 42 := by rw [b42]; exact q42
                      have HI : Hid (Lib.indexByte [110, 42, 36] d = 1) := Lib.hid (by rw [hd]; rfl)
                      have HS9 : Hid (stepP cp (92 :: d :: r') = .adv [92] 1) := Lib.hid (by rw [HST.out, if_neg (by rw [hd]; simp), if_pos (.inr (.inl hd))])
                      clear hd
                      go_wp2_with fail
                      refine (Try.strings_IndexByte _ (d.toNat : Int) _).mono ?_
                      rintro e wz ⟨rfl, rfl⟩
                      rw [u8_back, show Lib.indexByte (⟨#[110, 42, 36]⟩ : ByteArray).data.toList d = 1 from HI.out]
                      have HADV : Hid (exF cp L.ans g left' ((bl s2).drop 1) (o2 ++ [92]) σ' = RES) := Lib.hid (by
                        have := HRUN4.out
                        rw [exF, HX2.out, HS9.out] at this
                        rw [HX2.out]
                        exact this)
                      go_wp2_with fail
                      refine (bWriteByte W.heap.size W.heap.size _ 92 _ HY4.out.bld (by rw [Lib.byteCells_length]; omega) (by have := HY4.out.keep.size; omega)).mono ?_
                      rintro e w5 ⟨rfl, hB5, hb5, hk5⟩
                      skip
                      have hX5 : ExAt L cp br W T RES g (s2.extract 1 s2.size) (o2 ++ [92]) left' σ' T' w5 := HY4.out.wrote (by rw [Lib.byteCells_append]; exact hB5) hb5 hk5
                        (by have := HG.out; have e := HS2L.out; unfold mu at *; rw [bl_to_end, List.length_drop]; omega) (by rw [bl_to_end]; exact HADV.out)
                      have HE := Lib.hid hX5
                      have HRR : Hid ((o2 ++ [92]).length + (bl (s2.extract 1 s2.size)).length ≤ 8000) := Lib.hid (by have e := HS2L.out; rw [bl_to_end, List.length_drop, List.length_append]; simp only [List.length_cons, List.length_nil]; omega)
                      clear hB5 hb5 hk5 hX5
                      go_wp2_with fail
                      go_roundg g
                      case measure => have := HG.out; omega
                      case rel => exact ⟨_, _, _, _, _, rfl, by have := HG.out; omega, HRR.out, HE.out⟩
                    | false =>
                      cases q36 : ((d.toNat : Int) == 36) with
                      | true =>
                        have hd : d = 36 := by rw [b36]; exact q36
                        have HI : Hid (Lib.indexByte [110, 42, 36] d = 2) := Lib.hid (by rw [hd]; rfl)
                        have HS9 : Hid (stepP cp (92 :: d :: r') = .adv [92] 1) := Lib.hid (by rw [HST.out, if_neg (by rw [hd]; simp), if_pos (.inr (.inr (.inl hd)))])
                        clear hd
                        go_wp2_with fail
                        refine (Try.strings_IndexByte _ (d.toNat : Int) _).mono ?_
                        rintro e wz ⟨rfl, rfl⟩
                        rw [u8_back, show Lib.indexByte (⟨#[110, 42, 36]⟩ : ByteArray).data.toList d = 2 from HI.out]
                        have HADV : Hid (exF cp L.ans g left' ((bl s2).drop 1) (o2 ++ [92]) σ' = RES) := Lib.hid (by
                          have := HRUN4.out
                          rw [exF, HX2.out, HS9.out] at this
                          rw [HX2.out]
                          exact this)
                        go_wp2_with fail
                        refine (bWriteByte W.heap.size W.heap.size _ 92 _ HY4.out.bld (by rw [Lib.byteCells_length]; omega) (by have := HY4.out.keep.size; omega)).mono ?_
                        rintro e w5 ⟨rfl, hB5, hb5, hk5⟩
                        skip
                        have hX5 : ExAt L cp br W T RES g (s2.extract 1 s2.size) (o2 ++ [92]) left' σ' T' w5 := HY4.out.wrote (by rw [Lib.byteCells_append]; exact hB5) hb5 hk5
                          (by have := HG.out; have e := HS2L.out; unfold mu at *; rw [bl_to_end, List.length_drop]; omega) (by rw [bl_to_end]; exact HADV.out)
                        have HE := Lib.hid hX5
                        have HRR : Hid ((o2 ++ [92]).length + (bl (s2.extract 1 s2.size)).length ≤ 8000) := Lib.hid (by have e := HS2L.out; rw [bl_to_end, List.length_drop, List.length_append]; simp only [List.length_cons, List.length_nil]; omega)
                        clear hB5 hb5 hk5 hX5
                        go_wp2_with fail
                        go_roundg g
                        case measure => have := HG.out; omega
                        case rel => exact ⟨_, _, _, _, _, rfl, by have := HG.out; omega, HRR.out, HE.out⟩
                      | false =>
                        have n110 : ¬ d = 110 := by rw [b110, q110]; simp
                        have n42 : ¬ d = 42 := by rw [b42, q42]; simp
                        have n36 : ¬ d = 36 := by rw [b36, q36]; simp
                        have HI : Hid (Lib.indexByte [110, 42, 36] d = -1) := Lib.hid (by
                          have a1 : ((110 : UInt8) == d) = false := by simpa using fun h => n110 h.symm
                          have a2 : ((42 : UInt8) == d) = false := by simpa using fun h => n42 h.symm
                          have a3 : ((36 : UInt8) == d) = false := by simpa using fun h => n36 h.symm
                          simp [Lib.indexByte, a1, a2, a3])
                        have HNN := Lib.hid (And.intro n110 (And.intro n42 n36))
                        clear n110 n42 n36
                        go_wp2_with fail
                        refine (Try.strings_IndexByte _ (d.toNat : Int) _).mono ?_
                        rintro e wz ⟨rfl, rfl⟩
                        rw [u8_back, show Lib.indexByte (⟨#[110, 42, 36]⟩ : ByteArray).data.toList d = -1 from HI.out]
                        have HR2 := Lib.hid (fun (h : ¬ (d = 119 ∧ cp = false)) => (fun (h : d = 110 ∨ d = 42 ∨ d = 36 ∨ (d = 119 ∧ cp = false)) => h.elim HNN.out.1 (fun h => h.elim HNN.out.2.1 (fun h => h.elim HNN.out.2.2 (by assumption))) : ¬ (d = 110 ∨ d = 42 ∨ d = 36 ∨ (d = 119 ∧ cp = false))))
                        cases q119 : ((d.toNat : Int) == 119) with
                        | true =>
                          cases q92 : ((d.toNat : Int) == 92) with
                          | true =>
                            have hd : d = 92 := by rw [b92]; exact q92
                            have HS9 : Hid (stepP cp (92 :: d :: r') = .adv [d] 2) := Lib.hid (by rw [HST.out, if_pos ⟨HCP.out, .inl hd⟩])
                            clear hd
                            have HADV : Hid (exF cp L.ans g left' ((bl s2).drop 2) (o2 ++ [d]) σ' = RES) := Lib.hid (by
                              have := HRUN4.out
                              rw [exF, HX2.out, HS9.out] at this
                              rw [HX2.out]
                              exact this)
                            go_wp2_with fail
                            refine (bWriteByte W.heap.size W.heap.size _ (d.toNat : Int) _ HY4.out.bld (by rw [Lib.byteCells_length]; omega) (by have := HY4.out.keep.size; omega)).mono ?_
                            rintro e w5 ⟨rfl, hB5, hb5, hk5⟩
                            skip
                            have hX5 : ExAt L cp br W T RES g (s2.extract 2 s2.size) (o2 ++ [d]) left' σ' T' w5 := HY4.out.wrote (by rw [Lib.byteCells_append]; exact hB5) hb5 hk5
                              (by have := HG.out; have e := HS2L.out; unfold mu at *; rw [bl_to_end, List.length_drop]; omega) (by rw [bl_to_end]; exact HADV.out)
                            have HE := Lib.hid hX5
                            have HRR : Hid ((o2 ++ [d]).length + (bl (s2.extract 2 s2.size)).length ≤ 8000) := Lib.hid (by have e := HS2L.out; rw [bl_to_end, List.length_drop, List.length_append]; simp only [List.length_cons, List.length_nil]; omega)
                            clear hB5 hb5 hk5 hX5
                            go_wp2_with fail
                            go_roundg g
                            case measure => have := HG.out; omega
                            case rel => exact ⟨_, _, _, _, _, rfl, by have := HG.out; omega, HRR.out, HE.out⟩
                          | false =>
                            have n92 : ¬ d = 92 := by rw [b92, q92]; simp
                            cases q46 : ((d.toNat : Int) == 46) with
                            | true =>
                              have hd : d = 46 := (byteEq (n := 46) (by omega)).2 q46
                              have HS9 : Hid (stepP cp (92 :: d :: r') = .adv [d] 2) := Lib.hid (by rw [HST.out, if_pos ⟨HCP.out, .inr hd⟩])
                              clear hd n92
                              have HADV : Hid (exF cp L.ans g left' ((bl s2).drop 2) (o2 ++ [d]) σ' = RES) := Lib.hid (by
                                have := HRUN4.out
                                rw [exF, HX2.out, HS9.out] at this
                                rw [HX2.out]
                                exact this)
                              go_wp2_with fail
                              refine (bWriteByte W.heap.size W.heap.size _ (d.toNat : Int) _ HY4.out.bld (by rw [Lib.byteCells_length]; omega) (by have := HY4.out.keep.size; omega)).mono ?_
                              rintro e w5 ⟨rfl, hB5, hb5, hk5⟩
                              skip
                              have hX5 : ExAt L cp br W T RES g (s2.extract 2 s2.size) (o2 ++ [d]) left' σ' T' w5 := HY4.out.wrote (by rw [Lib.byteCells_append]; exact hB5) hb5 hk5
                                (by have := HG.out; have e := HS2L.out; unfold mu at *; rw [bl_to_end, List.length_drop]; omega) (by rw [bl_to_end]; exact HADV.out)
                              have HE := Lib.hid hX5
                              have HRR : Hid ((o2 ++ [d]).length + (bl (s2.extract 2 s2.size)).length ≤ 8000) := Lib.hid (by have e := HS2L.out; rw [bl_to_end, List.length_drop, List.length_append]; simp only [List.length_cons, List.length_nil]; omega)
                              clear hB5 hb5 hk5 hX5
                              go_wp2_with fail
                              go_roundg g
                              case measure => have := HG.out; omega
                              case rel => exact ⟨_, _, _, _, _, rfl, by have := HG.out; omega, HRR.out, HE.out⟩
                            | false =>
                              have n46 : ¬ d = 46 := (byteNe (n := 46) (by omega)).2 q46
                              have HS9 : Hid (stepP cp (92 :: d :: r') = .adv [92, d] 2) := Lib.hid (by rw [HST.out, if_neg (fun h => h.2.elim n92 n46), if_neg (HR2.out (fun h => by rw [HCP.out] at h; cases h.2))])
                              clear n92 n46
                              have HS2X : Hid (Lib.strCells (s2.extract 0 2) = Lib.byteCells [92, d]) := Lib.hid (by
                                rw [Lib.strCells_eq, show (s2.extract 0 2).data.toList = [92, d] from by
                                  have := bl_extract s2 0 2
                                  rw [HX2.out] at this
                                  exact this])
                              have HADV : Hid (exF cp L.ans g left' ((bl s2).drop 2) (o2 ++ [92, d]) σ' = RES) := Lib.hid (by
                                have := HRUN4.out
                                rw [exF, HX2.out, HS9.out] at this
                                rw [HX2.out]
                                exact this)
                              go_wp2_with fail
                              refine (bWriteString W.heap.size W.heap.size _ _ _ HY4.out.bld (by rw [Lib.byteCells_length, ← bl_len, bl_extract, List.length_take]; omega) (by have := HY4.out.keep.size; omega)).mono ?_
                              rintro e w5 ⟨rfl, hB5, hb5, hk5⟩
                              rw [HS2X.out] at hB5
                              have hX5 : ExAt L cp br W T RES g (s2.extract 2 s2.size) (o2 ++ [92, d]) left' σ' T' w5 := HY4.out.wrote (by rw [Lib.byteCells_append]; exact hB5) hb5 hk5
                                (by have := HG.out; have e := HS2L.out; unfold mu at *; rw [bl_to_end, List.length_drop]; omega) (by rw [bl_to_end]; exact HADV.out)
                              have HE := Lib.hid hX5
                              have HRR : Hid ((o2 ++ [92, d]).length + (bl (s2.extract 2 s2.size)).length ≤ 8000) := Lib.hid (by have e := HS2L.out; rw [bl_to_end, List.length_drop, List.length_append]; simp only [List.length_cons, List.length_nil]; omega)
                              clear hB5 hb5 hk5 hX5
                              go_wp2_with fail
                              go_roundg g
                              case measure => have := HG.out; omega
                              case rel => exact ⟨_, _, _, _, _, rfl, by have := HG.out; omega, HRR.out, HE.out⟩
                        | false =>
                          cases q92 : ((d.toNat : Int) == 92) with
                          | true =>
                            have hd : d = 92 := by rw [b92]; exact q92
                            have HS9 : Hid (stepP cp (92 :: d :: r') = .adv [d] 2) := Lib.hid (by rw [HST.out, if_pos ⟨HCP.out, .inl hd⟩])
                            clear hd
                            have HADV : Hid (exF cp L.ans g left' ((bl s2).drop 2) (o2 ++ [d]) σ' = RES) := Lib.hid (by
                              have := HRUN4.out
                              rw [exF, HX2.out, HS9.out] at this
                              rw [HX2.out]
                              exact this)
                            go_wp2_with fail
                            refine (bWriteByte W.heap.size W.heap.size _ (d.toNat : Int) _ HY4.out.bld (by rw [Lib.byteCells_length]; omega) (by have := HY4.out.keep.size; omega)).mono ?_
                            rintro e w5 ⟨rfl, hB5, hb5, hk5⟩
                            skip
                            have hX5 : ExAt L cp br W T RES g (s2.extract 2 s2.size) (o2 ++ [d]) left' σ' T' w5 := HY4.out.wrote (by rw [Lib.byteCells_append]; exact hB5) hb5 hk5
                              (by have := HG.out; have e := HS2L.out; unfold mu at *; rw [bl_to_end, List.length_drop]; omega) (by rw [bl_to_end]; exact HADV.out)
                            have HE := Lib.hid hX5
                            have HRR : Hid ((o2 ++ [d]).length + (bl (s2.extract 2 s2.size)).length ≤ 8000) := Lib.hid (by have e := HS2L.out; rw [bl_to_end, List.length_drop, List.length_append]; simp only [List.length_cons, List.length_nil]; omega)
                            clear hB5 hb5 hk5 hX5
                            go_wp2_with fail
                            go_roundg g
                            case measure => have := HG.out; omega
                            case rel => exact ⟨_, _, _, _, _, rfl, by have := HG.out; omega, HRR.out, HE.out⟩
                          | false =>
                            have n92 : ¬ d = 92 := by rw [b92, q92]; simp
                            cases q46 : ((d.toNat : Int) == 46) with
                            | true =>
                              have hd : d = 46 := (byteEq (n := 46) (by omega)).2 q46
                              have HS9 : Hid (stepP cp (92 :: d :: r') = .adv [d] 2) := Lib.hid (by rw [HST.out, if_pos ⟨HCP.out, .inr hd⟩])
                              clear hd n92
                              have HADV : Hid (exF cp L.ans g left' ((bl s2).drop 2) (o2 ++ [d]) σ' = RES) := Lib.hid (by
                                have := HRUN4.out
                                rw [exF, HX2.out, HS9.out] at this
                                rw [HX2.out]
                                exact this)
                              go_wp2_with fail
                              refine (bWriteByte W.heap.size W.heap.size _ (d.toNat : Int) _ HY4.out.bld (by rw [Lib.byteCells_length]; omega) (by have := HY4.out.keep.size; omega)).mono ?_
                              rintro e w5 ⟨rfl, hB5, hb5, hk5⟩
                              skip
                              have hX5 : ExAt L cp br W T RES g (s2.extract 2 s2.size) (o2 ++ [d]) left' σ' T' w5 := HY4.out.wrote (by rw [Lib.byteCells_append]; exact hB5) hb5 hk5
                                (by have := HG.out; have e := HS2L.out; unfold mu at *; rw [bl_to_end, List.length_drop]; omega) (by rw [bl_to_end]; exact HADV.out)
                              have HE := Lib.hid hX5
                              have HRR : Hid ((o2 ++ [d]).length + (bl (s2.extract 2 s2.size)).length ≤ 8000) := Lib.hid (by have e := HS2L.out; rw [bl_to_end, List.length_drop, List.length_append]; simp only [List.length_cons, List.length_nil]; omega)
                              clear hB5 hb5 hk5 hX5
                              go_wp2_with fail
                              go_roundg g
                              case measure => have := HG.out; omega
                              case rel => exact ⟨_, _, _, _, _, rfl, by have := HG.out; omega, HRR.out, HE.out⟩
                            | false =>
                              have n46 : ¬ d = 46 := (byteNe (n := 46) (by omega)).2 q46
                              have HS9 : Hid (stepP cp (92 :: d :: r') = .adv [92, d] 2) := Lib.hid (by rw [HST.out, if_neg (fun h => h.2.elim n92 n46), if_neg (HR2.out (fun h => by rw [HCP.out] at h; cases h.2))])
                              clear n92 n46
                              have HS2X : Hid (Lib.strCells (s2.extract 0 2) = Lib.byteCells [92, d]) := Lib.hid (by
                                rw [Lib.strCells_eq, show (s2.extract 0 2).data.toList = [92, d] from by
                                  have := bl_extract s2 0 2
                                  rw [HX2.out] at this
                                  exact this])
                              have HADV : Hid (exF cp L.ans g left' ((bl s2).drop 2) (o2 ++ [92, d]) σ' = RES) := Lib.hid (by
                                have := HRUN4.out
                                rw [exF, HX2.out, HS9.out] at this
                                rw [HX2.out]
                                exact this)
                              go_wp2_with fail
                              refine (bWriteString W.heap.size W.heap.size _ _ _ HY4.out.bld (by rw [Lib.byteCells_length, ← bl_len, bl_extract, List.length_take]; omega) (by have := HY4.out.keep.size; omega)).mono ?_
                              rintro e w5 ⟨rfl, hB5, hb5, hk5⟩
                              rw [HS2X.out] at hB5
                              have hX5 : ExAt L cp br W T RES g (s2.extract 2 s2.size) (o2 ++ [92, d]) left' σ' T' w5 := HY4.out.wrote (by rw [Lib.byteCells_append]; exact hB5) hb5 hk5
                                (by have := HG.out; have e := HS2L.out; unfold mu at *; rw [bl_to_end, List.length_drop]; omega) (by rw [bl_to_end]; exact HADV.out)
                              have HE := Lib.hid hX5
                              have HRR : Hid ((o2 ++ [92, d]).length + (bl (s2.extract 2 s2.size)).length ≤ 8000) := Lib.hid (by have e := HS2L.out; rw [bl_to_end, List.length_drop, List.length_append]; simp only [List.length_cons, List.length_nil]; omega)
                              clear hB5 hb5 hk5 hX5
                              go_wp2_with fail
                              go_roundg g
                              case measure => have := HG.out; omega
                              case rel => exact ⟨_, _, _, _, _, rfl, by have := HG.out; omega, HRR.out, HE.out⟩
            · rw [hcp] at cc
              have HCP := Lib.hid hcp
              clear hcp
              cases r with
              | nil =>
                have hs1 : s2.size = 1 := by rw [← bl_len, HX2.out]; rfl
                have HS2L : Hid (1 ≤ (bl s2).length) := Lib.hid (by rw [HX2.out]; simp)
                have k1 : ¬ (1 : Int) < (s2.size : Int) := by omega
                have k2 : ((s2.size : Int) == 1) = true := by rw [hs1]; rfl
                have k3 : (1 : Int) ≤ (s2.size : Int) := by omega
                clear hs1
                have HADV : Hid (exF cp L.ans g left' ((bl s2).drop 1) (o2 ++ [92]) σ' = RES) := Lib.hid (by
                  have := HRUN4.out
                  rw [exF, HX2.out, step_one] at this
                  rw [HX2.out]
                  exact this)
                go_wp2_with fail
                refine (bWriteByte W.heap.size W.heap.size _ 92 _ HY4.out.bld (by rw [Lib.byteCells_length]; omega) (by have := HY4.out.keep.size; omega)).mono ?_
                rintro e w5 ⟨rfl, hB5, hb5, hk5⟩
                skip
                have hX5 : ExAt L cp br W T RES g (s2.extract 1 s2.size) (o2 ++ [92]) left' σ' T' w5 := HY4.out.wrote (by rw [Lib.byteCells_append]; exact hB5) hb5 hk5
                  (by have := HG.out; have e := HS2L.out; unfold mu at *; rw [bl_to_end, List.length_drop]; omega) (by rw [bl_to_end]; exact HADV.out)
                have HE := Lib.hid hX5
                have HRR : Hid ((o2 ++ [92]).length + (bl (s2.extract 1 s2.size)).length ≤ 8000) := Lib.hid (by have e := HS2L.out; rw [bl_to_end, List.length_drop, List.length_append]; simp only [List.length_cons, List.length_nil]; omega)
                clear hB5 hb5 hk5 hX5
                go_wp2_with fail
                go_roundg g
                case measure => have := HG.out; omega
                case rel => exact ⟨_, _, _, _, _, rfl, by have := HG.out; omega, HRR.out, HE.out⟩
              | cons d r' =>
                have hs1 : s2.size = r'.length + 2 := by rw [← bl_len, HX2.out]; rfl
                have HS2L : Hid (2 ≤ (bl s2).length) := Lib.hid (by rw [HX2.out]; simp)
                have k1 : (1 : Int) < (s2.size : Int) := by omega
                have k2 : ((s2.size : Int) == 1) = false := by rw [beq_eq_false_iff_ne]; omega
                have k3 : (1 : Int) ≤ (s2.size : Int) := by omega
                have k4 : (2 : Int) ≤ (s2.size : Int) := by omega
                have k5 : 2 ≤ s2.size := by omega
                obtain ⟨hp1, e1⟩ := bl_get (s := s2) (i := 1) (c := d) (by rw [HX2.out]; rfl)
                clear hs1
                cases q34 : ((d.toNat : Int) == 34) with
                | true =>
                  have hd : d = 34 := (byteEq (n := 34) (by omega)).2 q34
                  have HD : Hid (RES = .done o2 left' σ') := Lib.hid (by
                    have := HRUN4.out
                    rw [exF, HX2.out, hd, step_rem] at this
                    exact this.symm)
                  clear hd
                  go_wp2_with fail
                  refine (Try.Builder_String_any_k W.heap.size W.heap.size o2 _ HY4.out.bld (by have := HY4.out.keep.size; omega)).mono ?_
                  rintro e w5 ⟨rfl, _, hb5, hk5⟩
                  have HE := Lib.hid (HY4.out.finish HD.out hb5 hk5)
                  clear hb5 hk5
                  go_wp2_with fail
                  go_ret
                  exact HE.out
                | false =>
                  have hd : d ≠ 34 := (byteNe (n := 34) (by omega)).2 q34
                  have HST := Lib.hid (step_rest hd (by have := HN.out; rw [HX2.out] at this; exact this) (by have := HW1.out; rw [HX2.out] at this; exact this))
                  clear hd
                  cases q110 : ((d.toNat : Int) == 110) with
                  | true =>
                    have hd : d = 110 := by rw [b110]; exact q110
                    have HI : Hid (Lib.indexByte [110, 42, 36] d = 0) := Lib.hid (by rw [hd]; rfl)
                    have HS9 : Hid (stepP cp (92 :: d :: r') = .adv [92] 1) := Lib.hid (by rw [HST.out, if_neg (by rw [hd]; simp), if_pos (.inl hd)])
                    clear hd
                    go_wp2_with fail
                    refine (Try.strings_IndexByte _ (d.toNat : Int) _).mono ?_
                    rintro e wz ⟨rfl, rfl⟩
                    rw [u8_back, show Lib.indexByte (⟨#[110, 42, 36]⟩ : ByteArray).data.toList d = 0 from HI.out]
                    have HADV : Hid (exF cp L.ans g left' ((bl s2).drop 1) (o2 ++ [92]) σ' = RES) := Lib.hid (by
                      have := HRUN4.out
                      rw [exF, HX2.out, HS9.out] at this
                      rw [HX2.out]
                      exact this)
                    go_wp2_with fail
                    refine (bWriteByte W.heap.size W.heap.size _ 92 _ HY4.out.bld (by rw [Lib.byteCells_length]; omega) (by have := HY4.out.keep.size; omega)).mono ?_
                    rintro e w5 ⟨rfl, hB5, hb5, hk5⟩
                    skip
                    have hX5 : ExAt L cp br W T RES g (s2.extract 1 s2.size) (o2 ++ [92]) left' σ' T' w5 := HY4.out.wrote (by rw [Lib.byteCells_append]; exact hB5) hb5 hk5
                      (by have := HG.out; have e := HS2L.out; unfold mu at *; rw [bl_to_end, List.length_drop]; omega) (by rw [bl_to_end]; exact HADV.out)
                    have HE := Lib.hid hX5
                    have HRR : Hid ((o2 ++ [92]).length + (bl (s2.extract 1 s2.size)).length ≤ 8000) := Lib.hid (by have e := HS2L.out; rw [bl_to_end, List.length_drop, List.length_append]; simp only [List.length_cons, List.length_nil]; omega)
                    clear hB5 hb5 hk5 hX5
                    go_wp2_with fail
                    go_roundg g
                    case measure => have := HG.out; omega
                    case rel => exact ⟨_, _, _, _, _, rfl, by have := HG.out; omega, HRR.out, HE.out⟩
                  | false =>
                    cases q42 : ((d.toNat : Int) == 42) with
                    | true =>
                      have hd : d = 42 := by rw [b42]; exact q42
                      have HI : Hid (Lib.indexByte [110, 42, 36] d = 1) := Lib.hid (by rw [hd]; rfl)
                      have HS9 : Hid (stepP cp (92 :: d :: r') = .adv [92] 1) := Lib.hid (by rw [HST.out, if_neg (by rw [hd]; simp), if_pos (.inr (.inl hd))])
                      clear hd
                      go_wp2_with fail
                      refine (Try.strings_IndexByte _ (d.toNat : Int) _).mono ?_
                      rintro e wz ⟨rfl, rfl⟩
                      rw [u8_back, show Lib.indexByte (⟨#[110, 42, 36]⟩ : ByteArray).data.toList d = 1 from HI.out]
                      have HADV : Hid (exF cp L.ans g left' ((bl s2).drop 1) (o2 ++ [92]) σ' = RES) := Lib.hid (by
                        have := HRUN4.out
                        rw [exF, HX2.out, HS9.out] at this
                        rw [HX2.out]
                        exact this)
                      go_wp2_with fail
                      refine (bWriteByte W.heap.size W.heap.size _ 92 _ HY4.out.bld (by rw [Lib.byteCells_length]; omega) (by have := HY4.out.keep.size; omega)).mono ?_
                      rintro e w5 ⟨rfl, hB5, hb5, hk5⟩
                      skip
                      have hX5 : ExAt L cp br W T RES g (s2.extract 1 s2.size) (o2 ++ [92]) left' σ' T' w5 := HY4.out.wrote (by rw [Lib.byteCells_append]; exact hB5) hb5 hk5
                        (by have := HG.out; have e := HS2L.out; unfold mu at *; rw [bl_to_end, List.length_drop]; omega) (by rw [bl_to_end]; exact HADV.out)
                      have HE := Lib.hid hX5
                      have HRR : Hid ((o2 ++ [92]).length + (bl (s2.extract 1 s2.size)).length ≤ 8000) := Lib.hid (by have e := HS2L.out; rw [bl_to_end, List.length_drop, List.length_append]; simp only [List.length_cons, List.length_nil]; omega)
                      clear hB5 hb5 hk5 hX5
                      go_wp2_with fail
                      go_roundg g
                      case measure => have := HG.out; omega
                      case rel => exact ⟨_, _, _, _, _, rfl, by have := HG.out; omega, HRR.out, HE.out⟩
                    | false =>
                      cases q36 : ((d.toNat : Int) == 36) with
                      | true =>
                        have hd : d = 36 := by rw [b36]; exact q36
                        have HI : Hid (Lib.indexByte [110, 42, 36] d = 2) := Lib.hid (by rw [hd]; rfl)
                        have HS9 : Hid (stepP cp (92 :: d :: r') = .adv [92] 1) := Lib.hid (by rw [HST.out, if_neg (by rw [hd]; simp), if_pos (.inr (.inr (.inl hd)))])
                        clear hd
                        go_wp2_with fail
                        refine (Try.strings_IndexByte _ (d.toNat : Int) _).mono ?_
                        rintro e wz ⟨rfl, rfl⟩
                        rw [u8_back, show Lib.indexByte (⟨#[110, 42, 36]⟩ : ByteArray).data.toList d = 2 from HI.out]
                        have HADV : Hid (exF cp L.ans g left' ((bl s2).drop 1) (o2 ++ [92]) σ' = RES) := Lib.hid (by
                          have := HRUN4.out
                          rw [exF, HX2.out, HS9.out] at this
                          rw [HX2.out]
                          exact this)
                        go_wp2_with fail
                        refine (bWriteByte W.heap.size W.heap.size _ 92 _ HY4.out.bld (by rw [Lib.byteCells_length]; omega) (by have := HY4.out.keep.size; omega)).mono ?_
                        rintro e w5 ⟨rfl, hB5, hb5, hk5⟩
                        skip
                        have hX5 : ExAt L cp br W T RES g (s2.extract 1 s2.size) (o2 ++ [92]) left' σ' T' w5 := HY4.out.wrote (by rw [Lib.byteCells_append]; exact hB5) hb5 hk5
                          (by have := HG.out; have e := HS2L.out; unfold mu at *; rw [bl_to_end, List.length_drop]; omega) (by rw [bl_to_end]; exact HADV.out)
                        have HE := Lib.hid hX5
                        have HRR : Hid ((o2 ++ [92]).length + (bl (s2.extract 1 s2.size)).length ≤ 8000) := Lib.hid (by have e := HS2L.out; rw [bl_to_end, List.length_drop, List.length_append]; simp only [List.length_cons, List.length_nil]; omega)
                        clear hB5 hb5 hk5 hX5
                        go_wp2_with fail
                        go_roundg g
                        case measure => have := HG.out; omega
                        case rel => exact ⟨_, _, _, _, _, rfl, by have := HG.out; omega, HRR.out, HE.out⟩
                      | false =>
                        have n110 : ¬ d = 110 := by rw [b110, q110]; simp
                        have n42 : ¬ d = 42 := by rw [b42, q42]; simp
                        have n36 : ¬ d = 36 := by rw [b36, q36]; simp
                        have HI : Hid (Lib.indexByte [110, 42, 36] d = -1) := Lib.hid (by
                          have a1 : ((110 : UInt8) == d) = false := by simpa using fun h => n110 h.symm
                          have a2 : ((42 : UInt8) == d) = false := by simpa using fun h => n42 h.symm
                          have a3 : ((36 : UInt8) == d) = false := by simpa using fun h => n36 h.symm
                          simp [Lib.indexByte, a1, a2, a3])
                        have HNN := Lib.hid (And.intro n110 (And.intro n42 n36))
                        clear n110 n42 n36
                        go_wp2_with fail
                        refine (Try.strings_IndexByte _ (d.toNat : Int) _).mono ?_
                        rintro e wz ⟨rfl, rfl⟩
                        rw [u8_back, show Lib.indexByte (⟨#[110, 42, 36]⟩ : ByteArray).data.toList d = -1 from HI.out]
                        have HR2 := Lib.hid (fun (h : ¬ (d = 119 ∧ cp = false)) => (fun (h : d = 110 ∨ d = 42 ∨ d = 36 ∨ (d = 119 ∧ cp = false)) => h.elim HNN.out.1 (fun h => h.elim HNN.out.2.1 (fun h => h.elim HNN.out.2.2 (by assumption))) : ¬ (d = 110 ∨ d = 42 ∨ d = 36 ∨ (d = 119 ∧ cp = false))))
                        cases q119 : ((d.toNat : Int) == 119) with
                        | true =>
                          have hd : d = 119 := by rw [b119]; exact q119
                          have HS9 : Hid (stepP cp (92 :: d :: r') = .adv [92] 1) := Lib.hid (by rw [HST.out, if_neg (by rw [hd]; simp), if_pos (.inr (.inr (.inr ⟨hd, HCP.out⟩)))])
                          clear hd
                          have HADV : Hid (exF cp L.ans g left' ((bl s2).drop 1) (o2 ++ [92]) σ' = RES) := Lib.hid (by
                            have := HRUN4.out
                            rw [exF, HX2.out, HS9.out] at this
                            rw [HX2.out]
                            exact this)
                          go_wp2_with fail
                          refine (bWriteByte W.heap.size W.heap.size _ 92 _ HY4.out.bld (by rw [Lib.byteCells_length]; omega) (by have := HY4.out.keep.size; omega)).mono ?_
                          rintro e w5 ⟨rfl, hB5, hb5, hk5⟩
                          skip
                          have hX5 : ExAt L cp br W T RES g (s2.extract 1 s2.size) (o2 ++ [92]) left' σ' T' w5 := HY4.out.wrote (by rw [Lib.byteCells_append]; exact hB5) hb5 hk5
                            (by have := HG.out; have e := HS2L.out; unfold mu at *; rw [bl_to_end, List.length_drop]; omega) (by rw [bl_to_end]; exact HADV.out)
                          have HE := Lib.hid hX5
                          have HRR : Hid ((o2 ++ [92]).length + (bl (s2.extract 1 s2.size)).length ≤ 8000) := Lib.hid (by have e := HS2L.out; rw [bl_to_end, List.length_drop, List.length_append]; simp only [List.length_cons, List.length_nil]; omega)
                          clear hB5 hb5 hk5 hX5
                          go_wp2_with fail
                          go_roundg g
                          case measure => have := HG.out; omega
                          case rel => exact ⟨_, _, _, _, _, rfl, by have := HG.out; omega, HRR.out, HE.out⟩
                        | false =>
                          have n119 : ¬ d = 119 := by rw [b119, q119]; simp
                          have HS9 : Hid (stepP cp (92 :: d :: r') = .adv [92, d] 2) := Lib.hid (by rw [HST.out, if_neg (by rw [HCP.out]; simp), if_neg (HR2.out (fun h => n119 h.1))])
                          clear n119
                          have HS2X : Hid (Lib.strCells (s2.extract 0 2) = Lib.byteCells [92, d]) := Lib.hid (by
                            rw [Lib.strCells_eq, show (s2.extract 0 2).data.toList = [92, d] from by
                              have := bl_extract s2 0 2
                              rw [HX2.out] at this
                              exact this])
                          have HADV : Hid (exF cp L.ans g left' ((bl s2).drop 2) (o2 ++ [92, d]) σ' = RES) := Lib.hid (by
                            have := HRUN4.out
                            rw [exF, HX2.out, HS9.out] at this
                            rw [HX2.out]
                            exact this)
                          go_wp2_with fail
                          refine (bWriteString W.heap.size W.heap.size _ _ _ HY4.out.bld (by rw [Lib.byteCells_length, ← bl_len, bl_extract, List.length_take]; omega) (by have := HY4.out.keep.size; omega)).mono ?_
                          rintro e w5 ⟨rfl, hB5, hb5, hk5⟩
                          rw [HS2X.out] at hB5
                          have hX5 : ExAt L cp br W T RES g (s2.extract 2 s2.size) (o2 ++ [92, d]) left' σ' T' w5 := HY4.out.wrote (by rw [Lib.byteCells_append]; exact hB5) hb5 hk5
                            (by have := HG.out; have e := HS2L.out; unfold mu at *; rw [bl_to_end, List.length_drop]; omega) (by rw [bl_to_end]; exact HADV.out)
                          have HE := Lib.hid hX5
                          have HRR : Hid ((o2 ++ [92, d]).length + (bl (s2.extract 2 s2.size)).length ≤ 8000) := Lib.hid (by have e := HS2L.out; rw [bl_to_end, List.length_drop, List.length_append]; simp only [List.length_cons, List.length_nil]; omega)
                          clear hB5 hb5 hk5 hX5
                          go_wp2_with fail
                          go_roundg g
                          case measure => have := HG.out; omega
                          case rel => exact ⟨_, _, _, _, _, rfl, by have := HG.out; omega, HRR.out, HE.out⟩
          · have hwl := widthP_le hw
            have hn1 : n ≤ s2.size := by rw [← bl_len]; exact hwl.2.1
            have hn2 : (n : Int) ≤ (s2.size : Int) := by omega
            have hn3 : (0 : Int) ≤ (n : Int) := by omega
            have hn4 : (0 : Int) < (n : Int) := by omega
            have cc := cellOf HY4.out.rd 1
            simp at cc
            rcases Bool.eq_false_or_eq_true cp with hcp | hcp
            · have HW1 : Hid (cp = true ∨ widthP (bl s2) = none) := Lib.hid (.inl hcp)
              rw [hcp] at cc
              have HCP := Lib.hid hcp
              clear hcp hw htw
              obtain ⟨d, r', rfl⟩ : ∃ d r', r = d :: r' := by
                cases r with
                | nil => have := hwl.2.1; rw [HX2.out] at this; simp at this; omega
                | cons d r' => exact ⟨d, r', rfl⟩
              have hs1 : s2.size = r'.length + 2 := by rw [← bl_len, HX2.out]; rfl
              have HS2L : Hid (2 ≤ (bl s2).length) := Lib.hid (by rw [HX2.out]; simp)
              have k1 : (1 : Int) < (s2.size : Int) := by omega
              have k2 : ((s2.size : Int) == 1) = false := by rw [beq_eq_false_iff_ne]; omega
              have k3 : (1 : Int) ≤ (s2.size : Int) := by omega
              have k4 : (2 : Int) ≤ (s2.size : Int) := by omega
              have k5 : 2 ≤ s2.size := by omega
              obtain ⟨hp1, e1⟩ := bl_get (s := s2) (i := 1) (c := d) (by rw [HX2.out]; rfl)
              clear hs1
              cases q34 : ((d.toNat : Int) == 34) with
              | true =>
                have hd : d = 34 := (byteEq (n := 34) (by omega)).2 q34
                have HD : Hid (RES = .done o2 left' σ') := Lib.hid (by
                  have := HRUN4.out
                  rw [exF, HX2.out, hd, step_rem] at this
                  exact this.symm)
                clear hd
                go_wp2_with fail
                refine (Try.Builder_String_any_k W.heap.size W.heap.size o2 _ HY4.out.bld (by have := HY4.out.keep.size; omega)).mono ?_
                rintro e w5 ⟨rfl, _, hb5, hk5⟩
                have HE := Lib.hid (HY4.out.finish HD.out hb5 hk5)
                clear hb5 hk5
                go_wp2_with fail
                go_ret
                exact HE.out
              | false =>
                have hd : d ≠ 34 := (byteNe (n := 34) (by omega)).2 q34
                have HST := Lib.hid (step_rest hd (by have := HN.out; rw [HX2.out] at this; exact this) (by have := HW1.out; rw [HX2.out] at this; exact this))
                clear hd
                cases q110 : ((d.toNat : Int) == 110) with
                | true =>
                  have hd : d = 110 := by rw [b110]; exact q110
                  have HI : Hid (Lib.indexByte [110, 42, 36] d = 0) := Lib.hid (by rw [hd]; rfl)
                  have HS9 : Hid (stepP cp (92 :: d :: r') = .adv [92] 1) := Lib.hid (by rw [HST.out, if_neg (by rw [hd]; simp), if_pos (.inl hd)])
                  clear hd
                  go_wp2_with fail
                  refine (Try.strings_IndexByte _ (d.toNat : Int) _).mono ?_
                  rintro e wz ⟨rfl, rfl⟩
                  rw [u8_back, show Lib.indexByte (⟨#[110, 42, 36]⟩ : ByteArray).data.toList d = 0 from HI.out]
                  have HADV : Hid (exF cp L.ans g left' ((bl s2).drop 1) (o2 ++ [92]) σ' = RES) := Lib.hid (by
                    have := HRUN4.out
                    rw [exF, HX2.out, HS9.out] at this
                    rw [HX2.out]
                    exact this)
                  go_wp2_with fail
                  refine (bWriteByte W.heap.size W.heap.size _ 92 _ HY4.out.bld (by rw [Lib.byteCells_length]; omega) (by have := HY4.out.keep.size; omega)).mono ?_
                  rintro e w5 ⟨rfl, hB5, hb5, hk5⟩
                  skip
                  have hX5 : ExAt L cp br W T RES g (s2.extract 1 s2.size) (o2 ++ [92]) left' σ' T' w5 := HY4.out.wrote (by rw [Lib.byteCells_append]; exact hB5) hb5 hk5
                    (by have := HG.out; have e := HS2L.out; unfold mu at *; rw [bl_to_end, List.length_drop]; omega) (by rw [bl_to_end]; exact HADV.out)
                  have HE := Lib.hid hX5
                  have HRR : Hid ((o2 ++ [92]).length + (bl (s2.extract 1 s2.size)).length ≤ 8000) := Lib.hid (by have e := HS2L.out; rw [bl_to_end, List.length_drop, List.length_append]; simp only [List.length_cons, List.length_nil]; omega)
                  clear hB5 hb5 hk5 hX5
                  go_wp2_with fail
                  go_roundg g
                  case measure => have := HG.out; omega
                  case rel => exact ⟨_, _, _, _, _, rfl, by have := HG.out; omega, HRR.out, HE.out⟩
                | false =>
                  cases q42 : ((d.toNat : Int) == 42) with
                  | true =>
                    have hd : d = 42 := by rw [b42]; exact q42
                    have HI : Hid (Lib.indexByte [110, 42, 36] d = 1) := Lib.hid (by rw [hd]; rfl)
                    have HS9 : Hid (stepP cp (92 :: d :: r') = .adv [92] 1) := Lib.hid (by rw [HST.out, if_neg (by rw [hd]; simp), if_pos (.inr (.inl hd))])
                    clear hd
                    go_wp2_with fail
                    refine (Try.strings_IndexByte _ (d.toNat : Int) _).mono ?_
                    rintro e wz ⟨rfl, rfl⟩
                    rw [u8_back, show Lib.indexByte (⟨#[110, 42, 36]⟩ : ByteArray).data.toList d = 1 from HI.out]
                    have HADV : Hid (exF cp L.ans g left' ((bl s2).drop 1) (o2 ++ [92]) σ' = RES) := Lib.hid (by
                      have := HRUN4.out
                      rw [exF, HX2.out, HS9.out] at this
                      rw [HX2.out]
                      exact this)
                    go_wp2_with fail
                    refine (bWriteByte W.heap.size W.heap.size _ 92 _ HY4.out.bld (by rw [Lib.byteCells_length]; omega) (by have := HY4.out.keep.size; omega)).mono ?_
                    rintro e w5 ⟨rfl, hB5, hb5, hk5⟩
                    skip
                    have hX5 : ExAt L cp br W T RES g (s2.extract 1 s2.size) (o2 ++ [92]) left' σ' T' w5 := HY4.out.wrote (by rw [Lib.byteCells_append]; exact hB5) hb5 hk5
                      (by have := HG.out; have e := HS2L.out; unfold mu at *; rw [bl_to_end, List.length_drop]; omega) (by rw [bl_to_end]; exact HADV.out)
                    have HE := Lib.hid hX5
                    have HRR : Hid ((o2 ++ [92]).length + (bl (s2.extract 1 s2.size)).length ≤ 8000) := Lib.hid (by have e := HS2L.out; rw [bl_to_end, List.length_drop, List.length_append]; simp only [List.length_cons, List.length_nil]; omega)
                    clear hB5 hb5 hk5 hX5
                    go_wp2_with fail
                    go_roundg g
                    case measure => have := HG.out; omega
                    case rel => exact ⟨_, _, _, _, _, rfl, by have := HG.out; omega, HRR.out, HE.out⟩
                  | false =>
                    cases q36 : ((d.toNat : Int) == 36) with
                    | true =>
                      have hd : d = 36 := by rw [b36]; exact q36
                      have HI : Hid (Lib.indexByte [110, 42, 36] d = 2) := Lib.hid (by rw [hd]; rfl)
                      have HS9 : Hid (stepP cp (92 :: d :: r') = .adv [92] 1) := Lib.hid (by rw [HST.out, if_neg (by rw [hd]; simp), if_pos (.inr (.inr (.inl hd)))])
                      clear hd
                      go_wp2_with fail
                      refine (Try.strings_IndexByte _ (d.toNat : Int) _).mono ?_
                      rintro e wz ⟨rfl, rfl⟩
                      rw [u8_back, show Lib.indexByte (⟨#[110, 42, 36]⟩ : ByteArray).data.toList d = 2 from HI.out]
                      have HADV : Hid (exF cp L.ans g left' ((bl s2).drop 1) (o2 ++ [92]) σ' = RES) := Lib.hid (by
                        have := HRUN4.out
                        rw [exF, HX2.out, HS9.out] at this
                        rw [HX2.out]
                        exact this)
                      go_wp2_with fail
                      refine (bWriteByte W.heap.size W.heap.size _ 92 _ HY4.out.bld (by rw [Lib.byteCells_length]; omega) (by have := HY4.out.keep.size; omega)).mono ?_
                      rintro e w5 ⟨rfl, hB5, hb5, hk5⟩
                      skip
                      have hX5 : ExAt L cp br W T RES g (s2.extract 1 s2.size) (o2 ++ [92]) left' σ' T' w5 := HY4.out.wrote (by rw [Lib.byteCells_append]; exact hB5) hb5 hk5
                        (by have := HG.out; have e := HS2L.out; unfold mu at *; rw [bl_to_end, List.length_drop]; omega) (by rw [bl_to_end]; exact HADV.out)
                      have HE := Lib.hid hX5
                      have HRR : Hid ((o2 ++ [92]).length + (bl (s2.extract 1 s2.size)).length ≤ 8000) := Lib.hid (by have e := HS2L.out; rw [bl_to_end, List.length_drop, List.length_append]; simp only [List.length_cons, List.length_nil]; omega)
                      clear hB5 hb5 hk5 hX5
                      go_wp2_with fail
                      go_roundg g
                      case measure => have := HG.out; omega
                      case rel => exact ⟨_, _, _, _, _, rfl, by have := HG.out; omega, HRR.out, HE.out⟩
                    | false =>
                      have n110 : ¬ d = 110 := by rw [b110, q110]; simp
                      have n42 : ¬ d = 42 := by rw [b42, q42]; simp
                      have n36 : ¬ d = 36 := by rw [b36, q36]; simp
                      have HI : Hid (Lib.indexByte [110, 42, 36] d = -1) := Lib.hid (by
                        have a1 : ((110 : UInt8) == d) = false := by simpa using fun h => n110 h.symm
                        have a2 : ((42 : UInt8) == d) = false := by simpa using fun h => n42 h.symm
                        have a3 : ((36 : UInt8) == d) = false := by simpa using fun h => n36 h.symm
                        simp [Lib.indexByte, a1, a2, a3])
                      have HNN := Lib.hid (And.intro n110 (And.intro n42 n36))
                      clear n110 n42 n36
                      go_wp2_with fail
                      refine (Try.strings_IndexByte _ (d.toNat : Int) _).mono ?_
                      rintro e wz ⟨rfl, rfl⟩
                      rw [u8_back, show Lib.indexByte (⟨#[110, 42, 36]⟩ : ByteArray).data.toList d = -1 from HI.out]
                      have HR2 := Lib.hid (fun (h : ¬ (d = 119 ∧ cp = false)) => (fun (h : d = 110 ∨ d = 42 ∨ d = 36 ∨ (d = 119 ∧ cp = false)) => h.elim HNN.out.1 (fun h => h.elim HNN.out.2.1 (fun h => h.elim HNN.out.2.2 (by assumption))) : ¬ (d = 110 ∨ d = 42 ∨ d = 36 ∨ (d = 119 ∧ cp = false))))
                      cases q119 : ((d.toNat : Int) == 119) with
                      | true =>
                        cases q92 : ((d.toNat : Int) == 92) with
                        | true =>
                          have hd : d = 92 := by rw [b92]; exact q92
                          have HS9 : Hid (stepP cp (92 :: d :: r') = .adv [d] 2) := Lib.hid (by rw [HST.out, if_pos ⟨HCP.out, .inl hd⟩])
                          clear hd
                          have HADV : Hid (exF cp L.ans g left' ((bl s2).drop 2) (o2 ++ [d]) σ' = RES) := Lib.hid (by
                            have := HRUN4.out
                            rw [exF, HX2.out, HS9.out] at this
                            rw [HX2.out]
                            exact this)
                          go_wp2_with fail
                          refine (bWriteByte W.heap.size W.heap.size _ (d.toNat : Int) _ HY4.out.bld (by rw [Lib.byteCells_length]; omega) (by have := HY4.out.keep.size; omega)).mono ?_
                          rintro e w5 ⟨rfl, hB5, hb5, hk5⟩
                          skip
                          have hX5 : ExAt L cp br W T RES g (s2.extract 2 s2.size) (o2 ++ [d]) left' σ' T' w5 := HY4.out.wrote (by rw [Lib.byteCells_append]; exact hB5) hb5 hk5
                            (by have := HG.out; have e := HS2L.out; unfold mu at *; rw [bl_to_end, List.length_drop]; omega) (by rw [bl_to_end]; exact HADV.out)
                          have HE := Lib.hid hX5
                          have HRR : Hid ((o2 ++ [d]).length + (bl (s2.extract 2 s2.size)).length ≤ 8000) := Lib.hid (by have e := HS2L.out; rw [bl_to_end, List.length_drop, List.length_append]; simp only [List.length_cons, List.length_nil]; omega)
                          clear hB5 hb5 hk5 hX5
                          go_wp2_with fail
                          go_roundg g
                          case measure => have := HG.out; omega
                          case rel => exact ⟨_, _, _, _, _, rfl, by have := HG.out; omega, HRR.out, HE.out⟩
                        | false =>
                          have n92 : ¬ d = 92 := by rw [b92, q92]; simp
                          cases q46 : ((d.toNat : Int) == 46) with
                          | true =>
                            have hd : d = 46 := (byteEq (n := 46) (by omega)).2 q46
                            have HS9 : Hid (stepP cp (92 :: d :: r') = .adv [d] 2) := Lib.hid (by rw [HST.out, if_pos ⟨HCP.out, .inr hd⟩])
                            clear hd n92
                            have HADV : Hid (exF cp L.ans g left' ((bl s2).drop 2) (o2 ++ [d]) σ' = RES) := Lib.hid (by
                              have := HRUN4.out
                              rw [exF, HX2.out, HS9.out] at this
                              rw [HX2.out]
                              exact this)
                            go_wp2_with fail
                            refine (bWriteByte W.heap.size W.heap.size _ (d.toNat : Int) _ HY4.out.bld (by rw [Lib.byteCells_length]; omega) (by have := HY4.out.keep.size; omega)).mono ?_
                            rintro e w5 ⟨rfl, hB5, hb5, hk5⟩
                            skip
                            have hX5 : ExAt L cp br W T RES g (s2.extract 2 s2.size) (o2 ++ [d]) left' σ' T' w5 := HY4.out.wrote (by rw [Lib.byteCells_append]; exact hB5) hb5 hk5
                              (by have := HG.out; have e := HS2L.out; unfold mu at *; rw [bl_to_end, List.length_drop]; omega) (by rw [bl_to_end]; exact HADV.out)
                            have HE := Lib.hid hX5
                            have HRR : Hid ((o2 ++ [d]).length + (bl (s2.extract 2 s2.size)).length ≤ 8000) := Lib.hid (by have e := HS2L.out; rw [bl_to_end, List.length_drop, List.length_append]; simp only [List.length_cons, List.length_nil]; omega)
                            clear hB5 hb5 hk5 hX5
                            go_wp2_with fail
                            go_roundg g
                            case measure => have := HG.out; omega
                            case rel => exact ⟨_, _, _, _, _, rfl, by have := HG.out; omega, HRR.out, HE.out⟩
                          | false =>
                            have n46 : ¬ d = 46 := (byteNe (n := 46) (by omega)).2 q46
                            have HS9 : Hid (stepP cp (92 :: d :: r') = .adv [92, d] 2) := Lib.hid (by rw [HST.out, if_neg (fun h => h.2.elim n92 n46), if_neg (HR2.out (fun h => by rw [HCP.out] at h; cases h.2))])
                            clear n92 n46
                            have HS2X : Hid (Lib.strCells (s2.extract 0 2) = Lib.byteCells [92, d]) := Lib.hid (by
                              rw [Lib.strCells_eq, show (s2.extract 0 2).data.toList = [92, d] from by
                                have := bl_extract s2 0 2
                                rw [HX2.out] at this
                                exact this])
                            have HADV : Hid (exF cp L.ans g left' ((bl s2).drop 2) (o2 ++ [92, d]) σ' = RES) := Lib.hid (by
                              have := HRUN4.out
                              rw [exF, HX2.out, HS9.out] at this
                              rw [HX2.out]
                              exact this)
                            go_wp2_with fail
                            refine (bWriteString W.heap.size W.heap.size _ _ _ HY4.out.bld (by rw [Lib.byteCells_length, ← bl_len, bl_extract, List.length_take]; omega) (by have := HY4.out.keep.size; omega)).mono ?_
                            rintro e w5 ⟨rfl, hB5, hb5, hk5⟩
                            rw [HS2X.out] at hB5
                            have hX5 : ExAt L cp br W T RES g (s2.extract 2 s2.size) (o2 ++ [92, d]) left' σ' T' w5 := HY4.out.wrote (by rw [Lib.byteCells_append]; exact hB5) hb5 hk5
                              (by have := HG.out; have e := HS2L.out; unfold mu at *; rw [bl_to_end, List.length_drop]; omega) (by rw [bl_to_end]; exact HADV.out)
                            have HE := Lib.hid hX5
                            have HRR : Hid ((o2 ++ [92, d]).length + (bl (s2.extract 2 s2.size)).length ≤ 8000) := Lib.hid (by have e := HS2L.out; rw [bl_to_end, List.length_drop, List.length_append]; simp only [List.length_cons, List.length_nil]; omega)
                            clear hB5 hb5 hk5 hX5
                            go_wp2_with fail
                            go_roundg g
                            case measure => have := HG.out; omega
                            case rel => exact ⟨_, _, _, _, _, rfl, by have := HG.out; omega, HRR.out, HE.out⟩
                      | false =>
                        cases q92 : ((d.toNat : Int) == 92) with
                        | true =>
                          have hd : d = 92 := by rw [b92]; exact q92
                          have HS9 : Hid (stepP cp (92 :: d :: r') = .adv [d] 2) := Lib.hid (by rw [HST.out, if_pos ⟨HCP.out, .inl hd⟩])
                          clear hd
                          have HADV : Hid (exF cp L.ans g left' ((bl s2).drop 2) (o2 ++ [d]) σ' = RES) := Lib.hid (by
                            have := HRUN4.out
                            rw [exF, HX2.out, HS9.out] at this
                            rw [HX2.out]
                            exact this)
                          go_wp2_with fail
                          refine (bWriteByte W.heap.size W.heap.size _ (d.toNat : Int) _ HY4.out.bld (by rw [Lib.byteCells_length]; omega) (by have := HY4.out.keep.size; omega)).mono ?_
                          rintro e w5 ⟨rfl, hB5, hb5, hk5⟩
                          skip
                          have hX5 : ExAt L cp br W T RES g (s2.extract 2 s2.size) (o2 ++ [d]) left' σ' T' w5 := HY4.out.wrote (by rw [Lib.byteCells_append]; exact hB5) hb5 hk5
                            (by have := HG.out; have e := HS2L.out; unfold mu at *; rw [bl_to_end, List.length_drop]; omega) (by rw [bl_to_end]; exact HADV.out)
                          have HE := Lib.hid hX5
                          have HRR : Hid ((o2 ++ [d]).length + (bl (s2.extract 2 s2.size)).length ≤ 8000) := Lib.hid (by have e := HS2L.out; rw [bl_to_end, List.length_drop, List.length_append]; simp only [List.length_cons, List.length_nil]; omega)
                          clear hB5 hb5 hk5 hX5
                          go_wp2_with fail
                          go_roundg g
                          case measure => have := HG.out; omega
                          case rel => exact ⟨_, _, _, _, _, rfl, by have := HG.out; omega, HRR.out, HE.out⟩
                        | false =>
                          have n92 : ¬ d = 92 := by rw [b92, q92]; simp
                          cases q46 : ((d.toNat : Int) == 46) with
                          | true =>
                            have hd : d = 46 := (byteEq (n := 46) (by omega)).2 q46
                            have HS9 : Hid (stepP cp (92 :: d :: r') = .adv [d] 2) := Lib.hid (by rw [HST.out, if_pos ⟨HCP.out, .inr hd⟩])
                            clear hd n92
                            have HADV : Hid (exF cp L.ans g left' ((bl s2).drop 2) (o2 ++ [d]) σ' = RES) := Lib.hid (by
                              have := HRUN4.out
                              rw [exF, HX2.out, HS9.out] at this
                              rw [HX2.out]
                              exact this)
                            go_wp2_with fail
                            refine (bWriteByte W.heap.size W.heap.size _ (d.toNat : Int) _ HY4.out.bld (by rw [Lib.byteCells_length]; omega) (by have := HY4.out.keep.size; omega)).mono ?_
                            rintro e w5 ⟨rfl, hB5, hb5, hk5⟩
                            skip
                            have hX5 : ExAt L cp br W T RES g (s2.extract 2 s2.size) (o2 ++ [d]) left' σ' T' w5 := HY4.out.wrote (by rw [Lib.byteCells_append]; exact hB5) hb5 hk5
                              (by have := HG.out; have e := HS2L.out; unfold mu at *; rw [bl_to_end, List.length_drop]; omega) (by rw [bl_to_end]; exact HADV.out)
                            have HE := Lib.hid hX5
                            have HRR : Hid ((o2 ++ [d]).length + (bl (s2.extract 2 s2.size)).length ≤ 8000) := Lib.hid (by have e := HS2L.out; rw [bl_to_end, List.length_drop, List.length_append]; simp only [List.length_cons, List.length_nil]; omega)
                            clear hB5 hb5 hk5 hX5
                            go_wp2_with fail
                            go_roundg g
                            case measure => have := HG.out; omega
                            case rel => exact ⟨_, _, _, _, _, rfl, by have := HG.out; omega, HRR.out, HE.out⟩
                          | false =>
                            have n46 : ¬ d = 46 := (byteNe (n := 46) (by omega)).2 q46
                            have HS9 : Hid (stepP cp (92 :: d :: r') = .adv [92, d] 2) := Lib.hid (by rw [HST.out, if_neg (fun h => h.2.elim n92 n46), if_neg (HR2.out (fun h => by rw [HCP.out] at h; cases h.2))])
                            clear n92 n46
                            have HS2X : Hid (Lib.strCells (s2.extract 0 2) = Lib.byteCells [92, d]) := Lib.hid (by
                              rw [Lib.strCells_eq, show (s2.extract 0 2).data.toList = [92, d] from by
                                have := bl_extract s2 0 2
                                rw [HX2.out] at this
                                exact this])
                            have HADV : Hid (exF cp L.ans g left' ((bl s2).drop 2) (o2 ++ [92, d]) σ' = RES) := Lib.hid (by
                              have := HRUN4.out
                              rw [exF, HX2.out, HS9.out] at this
                              rw [HX2.out]
                              exact this)
                            go_wp2_with fail
                            refine (bWriteString W.heap.size W.heap.size _ _ _ HY4.out.bld (by rw [Lib.byteCells_length, ← bl_len, bl_extract, List.length_take]; omega) (by have := HY4.out.keep.size; omega)).mono ?_
                            rintro e w5 ⟨rfl, hB5, hb5, hk5⟩
                            rw [HS2X.out] at hB5
                            have hX5 : ExAt L cp br W T RES g (s2.extract 2 s2.size) (o2 ++ [92, d]) left' σ' T' w5 := HY4.out.wrote (by rw [Lib.byteCells_append]; exact hB5) hb5 hk5
                              (by have := HG.out; have e := HS2L.out; unfold mu at *; rw [bl_to_end, List.length_drop]; omega) (by rw [bl_to_end]; exact HADV.out)
                            have HE := Lib.hid hX5
                            have HRR : Hid ((o2 ++ [92, d]).length + (bl (s2.extract 2 s2.size)).length ≤ 8000) := Lib.hid (by have e := HS2L.out; rw [bl_to_end, List.length_drop, List.length_append]; simp only [List.length_cons, List.length_nil]; omega)
                            clear hB5 hb5 hk5 hX5
                            go_wp2_with fail
                            go_roundg g
                            case measure => have := HG.out; omega
                            case rel => exact ⟨_, _, _, _, _, rfl, by have := HG.out; omega, HRR.out, HE.out⟩
            · rw [hcp] at cc
              have HCP := Lib.hid hcp
              have hrun5 : (match exF cp L.ans g left' tx [] σ' with
                  | .fail σ'' => Res.fail σ''
                  | .done inner l σ'' => if l = 0 then Res.fail σ'' else if 8000 < (o2 ++ L.ans ⟨119, inner, 0⟩).length + ((bl s2).drop n).length then Res.fail (σ'' ++ [⟨119, inner, 0⟩]) else exF cp L.ans g (l - 1) ((bl s2).drop n) (o2 ++ L.ans ⟨119, inner, 0⟩) (σ'' ++ [⟨119, inner, 0⟩])) = RES := by
                have := HRUN4.out
                rw [exF, show stepP cp (bl s2) = .wid tx n from by rw [hcp]; exact step_wid HN.out hw] at this
                exact this
              have HR5 := Lib.hid hrun5
              have HTW := Lib.hid htw
              have htl : (bl tw).length ≤ 8000 := by rw [htw]; omega
              have hmt : mu left' (bl tw) < g := by have := HG.out; unfold mu at *; rw [htw]; omega
              clear hcp hw htw hrun5
              go_wp2_with fail
              refine (IH.out g (by have := HG.out; omega) left' tw _ σ' T' br hmt HY4.out.left5 htl HY4.out.rd HY4.out.inv HY4.out.brT HY4.out.base_le HY4.out.asks).mono ?_
              rintro e w5 ⟨hK5, T5, hbr5, hT5, hc5⟩
              rcases hc5 with ⟨out5, l5, σ5, t5, hr5, ht5, rfl, hR5, hI5⟩ | ⟨σ5, hr5, rfl, hI5⟩
              · rw [HTW.out] at hr5
                have hl5 := exF_left hr5
                have ha5 := exF_asks.1 hr5
                have ho5 := exF_done_len hr5 (by rw [← HTW.out]; simpa using htl)
                have hX5 : ExAt L cp br W T (exF cp L.ans (mu l5 [] + 1) l5 [] o2 σ5) (mu l5 [] + 1) ⟨#[]⟩ o2 l5 σ5 T5 w5 :=
                  HY4.out.asked hK5 hR5 hI5 hbr5 hT5 (by have := HY4.out.left5; omega) (by have := HY4.out.asks; omega) (Nat.lt_succ_self _) rfl
                have HX5 := Lib.hid hX5
                have HR6 : Hid ((if l5 = 0 then Res.fail σ5 else if 8000 < (o2 ++ L.ans ⟨119, out5, 0⟩).length + ((bl s2).drop n).length then Res.fail (σ5 ++ [⟨119, out5, 0⟩]) else exF cp L.ans g (l5 - 1) ((bl s2).drop n) (o2 ++ L.ans ⟨119, out5, 0⟩) (σ5 ++ [⟨119, out5, 0⟩])) = RES) := Lib.hid (by
                  have := HR5.out
                  rw [hr5] at this
                  exact this)
                have HT5 := Lib.hid (And.intro ht5 (And.intro hl5 ha5))
                clear hK5 hbr5 hT5 hr5 ht5 hR5 hI5 hX5 ha5 HR5
                go_wp2_with fail
                rcases Nat.eq_zero_or_pos l5 with h0 | hpos
                · refine (ask_full L br cp _ _ t5 _ (by have := HX5.out.rd; rw [h0] at this; exact this)).mono ?_
                  rintro e w6 ⟨rfl, rfl⟩
                  have HE := Lib.hid (HX5.out.failed (r2 := RES) (by rw [← HR6.out, if_pos h0]))
                  clear h0
                  go_wp2_with fail
                  exact ⟨rfl, HE.out⟩
                · refine (ask_spec L br cp (500 - l5) _ σ5 T5 ⟨119, out5, 0⟩ t5 HX5.out.rd (by omega) HX5.out.inv HX5.out.brT HX5.out.base_le HT5.out.1 (by have := HX5.out.asks; omega) (by show out5.length ≤ 10000; omega)).mono ?_
                  rintro e w6 ⟨ta, T6, rfl, hta, hI6, hR6, hK6, hbr6, hT6⟩
                  have hX6 : ExAt L cp br W T (exF cp L.ans (mu (l5 - 1) [] + 1) (l5 - 1) [] o2 (σ5 ++ [⟨119, out5, 0⟩])) (mu (l5 - 1) [] + 1) ⟨#[]⟩ o2 (l5 - 1) (σ5 ++ [⟨119, out5, 0⟩]) T6 w6 :=
                    HX5.out.asked hK6 (by rw [show 500 - (l5 - 1) = 500 - l5 + 1 from by have := HX5.out.left5; omega]; exact hR6) hI6 hbr6 hT6 (by have := HX5.out.left5; omega) (by have := HX5.out.asks; rw [List.length_append, List.length_singleton]; omega) (Nat.lt_succ_self _) rfl
                  have HX6 := Lib.hid hX6
                  have hal : ta.size ≤ 100000 := by rw [← bl_len, hta]; exact L.ansLen _
                  have hopl : o2.length ≤ 8000 := by have := hro; omega
                  have HTA := Lib.hid hta
                  have HRU2 : Hid (if 8000 < (o2 ++ L.ans ⟨119, out5, 0⟩).length + ((bl s2).drop n).length then RES = Res.fail (σ5 ++ [⟨119, out5, 0⟩]) else exF cp L.ans g (l5 - 1) ((bl s2).drop n) (o2 ++ L.ans ⟨119, out5, 0⟩) (σ5 ++ [⟨119, out5, 0⟩]) = RES) := Lib.hid (by
                    have := HR6.out
                    rw [if_neg (by omega)] at this
                    split at this
                    · rw [if_pos ‹_›]; exact this.symm
                    · rw [if_neg ‹_›]; exact this)
                  clear hta hI6 hR6 hK6 hbr6 hT6 hX6 HR6
                  go_wp2_with fail
                  refine (bWriteString W.heap.size W.heap.size _ ta _ HX6.out.bld (by rw [Lib.byteCells_length]; omega) (by have := HX6.out.keep.size; omega)).mono ?_
                  rintro e w7 ⟨rfl, hB4, hb4, hk4⟩
                  rw [Lib.strCells_eq, ← Lib.byteCells_append, show ta.data.toList = L.ans ⟨119, out5, 0⟩ from HTA.out] at hB4
                  obtain ⟨o3, ho3⟩ : ∃ o, o2 ++ L.ans ⟨119, out5, 0⟩ = o := ⟨_, rfl⟩
                  rw [ho3] at hB4
                  have HO3 := Lib.hid ho3
                  have ho3l : o3.length ≤ 200000 := by rw [← ho3, List.length_append, ← HTA.out, bl_len]; omega
                  rw [ho3] at HRU2
                  clear ho3
                  have HB4 := Lib.hid (And.intro hB4 (And.intro hb4 hk4))
                  have hX7 := HX6.out.wrote (r' := exF cp L.ans (mu (l5 - 1) [] + 1) (l5 - 1) [] o3 (σ5 ++ [⟨119, out5, 0⟩])) (gf' := mu (l5 - 1) [] + 1) (s' := ⟨#[]⟩) hB4 hb4 hk4 (Nat.lt_succ_self _) rfl
                  have HX7 := Lib.hid hX7
                  clear hB4 hb4 hk4 hX7
                  have hdrop : bl (s2.extract n s2.size) = (bl s2).drop n := bl_to_end s2 n
                  have HDR := Lib.hid hdrop
                  clear hdrop
                  go_wp2_with fail
                  refine (Try.Builder_Len_f W.heap.size W.heap.size (Lib.byteCells (o3)) _ HX7.out.bld).mono ?_
                  rintro e wz ⟨rfl, rfl⟩
                  obtain ⟨y, hy⟩ : ∃ y, (s2.extract n s2.size) = y := ⟨_, rfl⟩
                  rw [hy, Lib.byteCells_length]
                  have HYV := Lib.hid hy
                  clear hy
                  have hyl : y.size ≤ 300000 := by rw [← HYV.out]; rw [← bl_len, bl_to_end, List.length_drop, bl_len]; omega
                  have hol : (o3).length ≤ 300000 := by omega
                  by_cases h8 : 8000 < (o3).length + y.size
                  · have h9 : (8000 : Int) < ((o3).length : Int) + (y.size : Int) := by omega
                    have HE := Lib.hid (HX7.out.failed (r2 := RES) (by have := HRU2.out; rw [← HDR.out, HYV.out, if_pos (by rw [bl_len]; exact h8)] at this; exact this))
                    clear h8
                    go_wp2_with fail
                    exact ⟨rfl, HE.out⟩
                  · have h9 : ¬ (8000 : Int) < ((o3).length : Int) + (y.size : Int) := by omega
                    have HE := Lib.hid (HX6.out.wrote (r' := RES) (gf' := g) (s' := y) HB4.out.1 HB4.out.2.1 HB4.out.2.2 (by have := HG.out; have := HT5.out; unfold mu at *; rw [bl_len] at *; omega) (by have := HRU2.out; rw [← HDR.out, HYV.out, if_neg (by rw [bl_len]; exact h8)] at this; exact this))
                    have HRR : Hid ((o3).length + (bl y).length ≤ 8000) := Lib.hid (by rw [bl_len]; omega)
                    clear h8
                    go_wp2_with fail
                    go_roundg g
                    case measure => have := HG.out; omega
                    case rel => exact ⟨y, _, _, _, _, rfl, by have := HG.out; omega, HRR.out, HE.out⟩
              · have hfail : RES = .fail σ5 := by
                  have := HR5.out
                  rw [← HTW.out, hr5] at this
                  exact this.symm
                have HE : Hid (ExPost L cp br W T RES (.panicked [{ v := limitV, recovered := false }]) w5) := Lib.hid ⟨HY4.out.keep.trans hK5 (fun b hb => by
                    rcases List.mem_cons.1 hb with rfl | hb
                    · exact .inl List.mem_cons_self
                    · exact (HY4.out.sub b hb).imp (List.mem_cons_of_mem _) id), T5, hbr5, fun b hb => (hT5 b hb).elim (HY4.out.sub b) (fun h2 => .inr (Nat.le_trans HY4.out.keep.size h2)), .inr ⟨σ5, hfail, rfl, hI5⟩⟩
                clear hK5 hbr5 hT5 hr5 hI5 hfail HR5
                go_wp2_with fail
                exact ⟨rfl, HE.out⟩
        · have hql := asksP_le hq
          have hn1 : n ≤ s2.size := by rw [← bl_len]; exact hql.2.1
          have hn2 : (n : Int) ≤ (s2.size : Int) := by omega
          have hn3 : (0 : Int) ≤ (n : Int) := by omega
          have hdrop : bl (s2.extract n s2.size) = (bl s2).drop n := bl_to_end s2 n
          have HDR := Lib.hid hdrop
          clear hdrop
          have HQ := Lib.hid hq
          have HTQ := Lib.hid htq
          have HY3 := Lib.hid (HY2.out.below ((Below.refl w2.heap.size w2).alloc (Nat.le_refl _) (.cells #[.int .u8 q.kind.toNat, .string tq, .int .i64 q.step, .int .i64 n] 58)))
          obtain ⟨g, hg⟩ : ∃ g, gk - m = g + 1 := ⟨gk - m - 1, by have := HY2.out.fuel; omega⟩
          have hrun : (if left' = 0 then Res.fail σ' else if 8000 < (nxOut L.ans q o2).length + (nxS L.ans q ((bl s2).drop n)).length then Res.fail (σ' ++ [q]) else exF cp L.ans g (left' - 1) (nxS L.ans q ((bl s2).drop n)) (nxOut L.ans q o2) (σ' ++ [q])) = RES := by
            have := HY2.out.run
            rw [hg, exF, step_ask hq] at this
            exact this
          have HRU := Lib.hid hrun
          have hmu2 := HY2.out.fuel
          have HG := Lib.hid (And.intro hg hmu2)
          clear hq htq hg hrun hmu2
          go_wp2_with fail
          rcases Nat.eq_zero_or_pos left' with h0 | hpos
          · refine (ask_full L br cp _ _ tq _ (by have := HY3.out.rd; rw [h0] at this; exact this)).mono ?_
            rintro e w3 ⟨rfl, rfl⟩
            have HE := Lib.hid (HY3.out.failed (r2 := RES) (by rw [← HRU.out, if_pos h0]))
            clear h0
            go_wp2_with fail
            exact ⟨rfl, HE.out⟩
          · refine (ask_spec L br cp (500 - left') _ σ' T' q tq HY3.out.rd (by omega) HY3.out.inv HY3.out.brT HY3.out.base_le HTQ.out (by have := HY3.out.asks; omega) (by omega)).mono ?_
            rintro e w3 ⟨ta, T2, rfl, hta, hI3, hR3, hK3, hbr3, hT3⟩
            have hc3 : w3.heap[w2.heap.size]? = some (.cells #[.int .u8 q.kind.toNat, .string tq, .int .i64 q.step, .int .i64 n] 58 (0, 0)) := by
              rw [hK3.block _ (by simp) (fun hm => by
                rcases List.mem_cons.1 hm with hm | hm
                · have := HY2.out.rd.lt; omega
                · have := (L.blocks HY2.out.inv _ hm).2.1; omega)]
              show (w2.heap.push _)[w2.heap.size]? = _
              rw [Array.getElem?_push, if_pos rfl]
            have hlt3 : w2.heap.size < w3.heap.size := (Array.getElem?_eq_some_iff.1 hc3).1
            have hX3 : ExAt L cp br W T (exF cp L.ans (mu (left' - 1) [] + 1) (left' - 1) [] o2 (σ' ++ [q])) (mu (left' - 1) [] + 1) ⟨#[]⟩ o2 (left' - 1) (σ' ++ [q]) T2 w3 :=
              HY3.out.asked hK3 (by rw [show 500 - (left' - 1) = 500 - left' + 1 from by have := HY3.out.left5; omega]; exact hR3) hI3 hbr3 hT3 (by have := HY3.out.left5; omega) (by have := HY3.out.asks; rw [List.length_append, List.length_singleton]; omega) (Nat.lt_succ_self _) rfl
            have HX3 := Lib.hid hX3
            have HC3 := Lib.hid hc3
            have HTA := Lib.hid hta
            have c0 := cellOf hc3 0
            have c3 := cellOf hc3 3
            simp at c0 c3
            clear hta hI3 hR3 hK3 hbr3 hT3 hc3 hX3
            have HRU2 : Hid (if 8000 < (nxOut L.ans q o2).length + (nxS L.ans q ((bl s2).drop n)).length then RES = Res.fail (σ' ++ [q]) else exF cp L.ans g (left' - 1) (nxS L.ans q ((bl s2).drop n)) (nxOut L.ans q o2) (σ' ++ [q]) = RES) := Lib.hid (by
              have := HRU.out
              rw [if_neg (by omega)] at this
              split at this
              · rw [if_pos ‹_›]; exact this.symm
              · rw [if_neg ‹_›]; exact this)
            have hal : ta.size ≤ 100000 := by rw [← bl_len, HTA.out]; exact L.ansLen q
            have hopl : o2.length ≤ 8000 := by have := hro; omega
            clear HRU
            by_cases hk : q.kind = 110
            · have qk : ((q.kind.toNat : Int) == 110) = true := by rw [← b110]; exact hk
              have HK := Lib.hid hk
              clear hk
              go_wp2_with fail
              refine (bWriteString W.heap.size W.heap.size _ ta _ HX3.out.bld (by rw [Lib.byteCells_length]; omega) (by have := HX3.out.keep.size; omega)).mono ?_
              rintro e w4 ⟨rfl, hB4, hb4, hk4⟩
              rw [Lib.strCells_eq, ← Lib.byteCells_append, show ta.data.toList = L.ans q from HTA.out] at hB4
              obtain ⟨o3, ho3⟩ : ∃ o, o2 ++ L.ans q = o := ⟨_, rfl⟩
              rw [ho3] at hB4
              have HO3 := Lib.hid ho3
              have ho3l : o3.length ≤ 200000 := by rw [← ho3, List.length_append, ← HTA.out, bl_len]; omega
              clear ho3
              have hc4 : w4.heap[w2.heap.size]? = some (.cells #[.int .u8 q.kind.toNat, .string tq, .int .i64 q.step, .int .i64 n] 58 (0, 0)) := hk4 _ _ HC3.out (by intro e; injection e with e; have := HY2.out.bld.lt; omega) (by intro c fz e; cases e)
              have c3 := cellOf hc4 3
              simp at c3
              obtain ⟨x, hx⟩ : ∃ x, s2.extract n s2.size = x := ⟨_, rfl⟩
              have hxs : x.size ≤ 8000 := by rw [← hx, ← bl_len, HDR.out, List.length_drop, bl_len]; omega
              have HB4 := Lib.hid (And.intro hB4 (And.intro hb4 hk4))
              clear hB4 hb4 hk4 hc4
              go_wp2_with fail
              have hnS : nxS L.ans q ((bl s2).drop n) = (bl s2).drop n := if_pos HK.out
              have hnO : nxOut L.ans q o2 = o3 := (if_pos HK.out).trans HO3.out
              have hbx : bl (⟨#[]⟩ ++ x) = (bl s2).drop n := by rw [bl_app, ← hx, HDR.out]; rfl
              have HNX := Lib.hid (And.intro hnS (And.intro hnO hbx))
              clear hnS hnO hbx hx
              have hX4 := HX3.out.wrote (r' := exF cp L.ans (mu (left' - 1) [] + 1) (left' - 1) [] o3 (σ' ++ [q])) (gf' := mu (left' - 1) [] + 1) (s' := ⟨#[]⟩) HB4.out.1 HB4.out.2.1 HB4.out.2.2 (Nat.lt_succ_self _) rfl
              have HX4 := Lib.hid hX4
              clear hX4
              refine (Try.Builder_Len_f W.heap.size W.heap.size (Lib.byteCells (o3)) _ HX4.out.bld).mono ?_
              rintro e wz ⟨rfl, rfl⟩
              obtain ⟨y, hy⟩ : ∃ y, ((⟨#[]⟩ : ByteArray) ++ x) = y := ⟨_, rfl⟩
              rw [hy, Lib.byteCells_length]
              have HYV := Lib.hid hy
              clear hy
              have hyl : y.size ≤ 300000 := by rw [← HYV.out]; rw [← bl_len, HNX.out.2.2, List.length_drop, bl_len]; omega
              have hol : (o3).length ≤ 300000 := by omega
              by_cases h8 : 8000 < (o3).length + y.size
              · have h9 : (8000 : Int) < ((o3).length : Int) + (y.size : Int) := by omega
                have HE := Lib.hid (HX4.out.failed (r2 := RES) (by have := HRU2.out; rw [HNX.out.1, HNX.out.2.1, ← HNX.out.2.2, HYV.out, if_pos (by rw [bl_len]; exact h8)] at this; exact this))
                clear h8
                go_wp2_with fail
                exact ⟨rfl, HE.out⟩
              · have h9 : ¬ (8000 : Int) < ((o3).length : Int) + (y.size : Int) := by omega
                have HE := Lib.hid (HX3.out.wrote (r' := RES) (gf' := g) (s' := y) HB4.out.1 HB4.out.2.1 HB4.out.2.2 (by have := HG.out; unfold mu at *; rw [bl_len] at *; omega) (by have := HRU2.out; rw [HNX.out.1, HNX.out.2.1, ← HNX.out.2.2, HYV.out, if_neg (by rw [bl_len]; exact h8)] at this; exact this))
                have HRR : Hid ((o3).length + (bl y).length ≤ 8000) := Lib.hid (by rw [bl_len]; omega)
                clear h8
                go_wp2_with fail
                go_roundg g
                case measure => have := HG.out; omega
                case rel => exact ⟨y, _, _, _, _, rfl, by have := HG.out; omega, HRR.out, HE.out⟩
            · have qk : ((q.kind.toNat : Int) == 110) = false := by rw [← Bool.not_eq_true, ← b110]; exact hk
              have hnS : nxS L.ans q ((bl s2).drop n) = L.ans q ++ (bl s2).drop n := if_neg hk
              have hnO : nxOut L.ans q o2 = o2 := if_neg hk
              have hbx : bl (ta ++ s2.extract n s2.size) = L.ans q ++ (bl s2).drop n := by rw [bl_app, HTA.out, HDR.out]
              have HNX := Lib.hid (And.intro hnS (And.intro hnO hbx))
              clear hk hnS hnO hbx
              go_wp2_with fail
              refine (Try.Builder_Len_f W.heap.size W.heap.size (Lib.byteCells (o2)) _ HX3.out.bld).mono ?_
              rintro e wz ⟨rfl, rfl⟩
              obtain ⟨y, hy⟩ : ∃ y, (ta ++ s2.extract n s2.size) = y := ⟨_, rfl⟩
              rw [hy, Lib.byteCells_length]
              have HYV := Lib.hid hy
              clear hy
              have hyl : y.size ≤ 300000 := by rw [← HYV.out]; rw [← bl_len, bl_app, List.length_append, bl_len, bl_to_end, List.length_drop, bl_len]; omega
              have hol : (o2).length ≤ 300000 := by omega
              by_cases h8 : 8000 < (o2).length + y.size
              · have h9 : (8000 : Int) < ((o2).length : Int) + (y.size : Int) := by omega
                have HE := Lib.hid (HX3.out.failed (r2 := RES) (by have := HRU2.out; rw [HNX.out.1, HNX.out.2.1, ← HNX.out.2.2, HYV.out, if_pos (by rw [bl_len]; exact h8)] at this; exact this))
                clear h8
                go_wp2_with fail
                exact ⟨rfl, HE.out⟩
              · have h9 : ¬ (8000 : Int) < ((o2).length : Int) + (y.size : Int) := by omega
                have HE := Lib.hid ({ HX3.out with fuel := (by have := HG.out; unfold mu at *; rw [bl_len] at *; omega), run := (by have := HRU2.out; rw [HNX.out.1, HNX.out.2.1, ← HNX.out.2.2, HYV.out, if_neg (by rw [bl_len]; exact h8)] at this; exact this) : ExAt L cp br W T RES g y o2 (left' - 1) (σ' ++ [q]) T2 _ })
                have HRR : Hid ((o2).length + (bl y).length ≤ 8000) := Lib.hid (by rw [bl_len]; omega)
                clear h8
                go_wp2_with fail
                go_roundg g
                case measure => have := HG.out; omega
                case rel => exact ⟨y, _, _, _, _, rfl, by have := HG.out; omega, HRR.out, HE.out⟩
end Go.Proofs.Ytcahlfafadabaaa
