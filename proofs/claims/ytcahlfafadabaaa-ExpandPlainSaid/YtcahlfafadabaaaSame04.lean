/- The law's same. -/
import Derived.Test.YtcahlfafadabaaaRFit04
import Derived.Test.YtcahlfafadabaaaSane04
namespace Go.Proofs.Ytcahlfafadabaaa
open Go.RowKit

theorem ask_cells {w : World} {L : List Nat} {A : Option Addr} {n c : Nat} {xs : List AskR} (h : Sl rAsk w L (.slice A n c) xs) {i : Nat} (hi : i < xs.length) :
    ∃ b o, A = some ⟨b, o, none⟩ ∧ w.cell? ⟨b, o + i * 3, none⟩ = some (.int .u8 xs[i].kind.toNat) ∧ w.cell? ⟨b, o + i * 3 + 1, none⟩ = some (.string (ba xs[i].name)) ∧ w.cell? ⟨b, o + i * 3 + 2, none⟩ = some (.int .i64 xs[i].step) := by
  obtain ⟨b, o, rfl, _, cs, hk, hc⟩ := h.get hi
  rw [hk] at hc
  exact ⟨b, o, rfl, hc 0 _ rfl, hc 1 _ rfl, hc 2 _ rfl⟩
set_option maxHeartbeats 1600000 in
theorem sameAsks_spec (w : World) (A1 A2 : Option Addr) (n1 c1 n2 c2 : Nat) (xs : List AskR) (h1 : Sl rAsk w [] (.slice A1 n1 c1) xs) (h2 : Sl rAsk w [] (.slice A2 n2 c2) xs) (hl : xs.length ≤ 1000000) :
    Calls Try.prog 17 #[.slice A1 n1 c1, .slice A2 n2 c2] w fun e w' => e = .returned (.bool true) ∧ ∃ q, w' = w.drewN q := by
  have e1 := h1.len_eq
  have e2 := h2.len_eq
  subst e1 e2
  have H1 := Lib.hid h1
  have H2 := Lib.hid h2
  clear h1 h2
  have n0 : ((xs.length : Int) != (xs.length : Int)) = false := by simp
  go_enter Try.func17, Try.ntmps17
  go_wp2_with fail
  go_loopw [5] (fun v wr => (∃ q, wr = w.drewN q) ∧ ∃ (k : Nat), k ≤ xs.length ∧ v = .int .i64 k) (fun v _ => xs.length - (intOf v).toNat)
  case atStart => exact ⟨⟨0, rfl⟩, 0, Nat.zero_le _, rfl⟩
  case round =>
    obtain ⟨hw, k, hk, rfl⟩ := hrel
    by_cases hlt : k < xs.length
    · obtain ⟨b1, o1, rfl, p1, p2, p3⟩ := ask_cells H1.out hlt
      obtain ⟨b2, o2, rfl, r1, r2, r3⟩ := ask_cells H2.out hlt
      obtain ⟨qd, hqd⟩ := hw
      have u1 : ∀ a : Addr, wr.cell? a = w.cell? a := fun a => by rw [hqd]; rfl
      rw [← u1] at p1 p2 p3 r1 r2 r3
      clear u1
      have HW := Lib.hid hqd
      clear hqd
      generalize xs[k] = q at *
      have i1 : (k : Int) < (xs.length : Int) := by omega
      have i3 : (0 : Int) ≤ (k : Int) := by omega
      go_wp2_with fail
      go_quiet (fail)
      go_wp2_with fail
      go_roundw
      case rel => exact ⟨⟨_, by rw [HW.out]; exact drewN_add _ _ _⟩, k + 1, by omega, by go_num⟩
      case measure => simp [intOf]; omega
    · have i1 : ¬ (k : Int) < (xs.length : Int) := by omega
      go_wp2_with fail
      go_ret
      exact ⟨rfl, hw⟩
theorem tel_start (w0 : World) (A : List ByteArray) (av : Value) (hA : Sl Rp.str w0 [] av A) :
    TelInv 40 w0.heap.size w0 A w0.heap.size ((w0.alloc (.cells #[.slice none 0 0, av] 40)).alloc (.cells #[.slice none 0 0, av] 38)) [] [w0.heap.size] ∧
    TelInv 38 w0.heap.size w0 A (w0.heap.size + 1) ((w0.alloc (.cells #[.slice none 0 0, av] 40)).alloc (.cells #[.slice none 0 0, av] 38)) [] [w0.heap.size + 1] ∧
    Below w0.heap.size w0 ((w0.alloc (.cells #[.slice none 0 0, av] 40)).alloc (.cells #[.slice none 0 0, av] 38)) := by
  have hb : Below w0.heap.size w0 ((w0.alloc (.cells #[.slice none 0 0, av] 40)).alloc (.cells #[.slice none 0 0, av] 38)) := ((Below.refl _ _).alloc (Nat.le_refl _) _).alloc (by simp) _
  have h1 : ((w0.alloc (.cells #[.slice none 0 0, av] 40)).alloc (.cells #[.slice none 0 0, av] 38)).heap[w0.heap.size]? = some (.cells #[.slice none 0 0, av] 40 (0, 0)) := by
    show ((w0.alloc _).heap.push _)[w0.heap.size]? = _
    rw [Array.getElem?_push, if_neg (by simp)]
    exact fresh_blk w0 _
  have h2 : ((w0.alloc (.cells #[.slice none 0 0, av] 40)).alloc (.cells #[.slice none 0 0, av] 38)).heap[w0.heap.size + 1]? = some (.cells #[.slice none 0 0, av] 38 (0, 0)) := by
    have := fresh_blk (w0.alloc (.cells #[.slice none 0 0, av] 40)) (.cells #[.slice none 0 0, av] 38)
    simpa using this
  exact ⟨⟨.slice none 0 0, av, rfl, h1, OwnS.nil _ _ _ _ _, hA, fun b hb' => hb.block b hb', Nat.le_refl _, Nat.le_refl _⟩,
    ⟨.slice none 0 0, av, rfl, h2, OwnS.nil _ _ _ _ _, hA, fun b hb' => hb.block b hb', Nat.le_refl _, Nat.le_succ _⟩, hb⟩
theorem TelInv.keep {t : TypeId} {base : Nat} {W0 : World} {A : List ByteArray} {g : Nat} {W W' : World} {σ : List AskR} {T T2 : List Nat} (ht : t ≠ 5) (h : TelInv t base W0 A g W σ T) (hK : Keep T2 W W') (h2 : ∀ b ∈ T2, base ≤ b ∧ b ∉ T) : TelInv t base W0 A g W' σ T :=
  h.stab fun b hk => hK.block b (by
    rcases hk with hk | hk
    · have : g < W.heap.size := by obtain ⟨_, _, _, h⟩ := h; exact h.lt
      have : base ≤ g := by obtain ⟨_, _, _, h⟩ := h; exact h.leg
      omega
    · exact (h.blocks ht b hk).2.1) (fun hm => by
    rcases hk with hk | hk
    · have := (h2 b hm).1; omega
    · exact (h2 b hm).2 hk)
theorem TelInv.asks {t : TypeId} {base : Nat} {W0 : World} {A : List ByteArray} {g : Nat} {W : World} {σ : List AskR} {T : List Nat} (h : TelInv t base W0 A g W σ T) : ∃ A1 c1, W.cell? ⟨g, 0, none⟩ = some (.slice A1 σ.length c1) ∧ Sl rAsk W [] (.slice A1 σ.length c1) σ := by
  obtain ⟨av, nv, rfl, h⟩ := h
  obtain ⟨A1, c1, rfl⟩ := h.own.val
  exact ⟨A1, c1, by rw [cellOf h.blk 0]; rfl, h.own.sl.move (fun b _ _ => ⟨by simp, rfl⟩)⟩
theorem resOf_asks {cp : Bool} {A : AskR → Bs} {s : Bs} : (resOf cp A s []).2.2.length ≤ 500 := by
  unfold resOf
  split
  · split
    · rename_i h
      have := (exF_asks (cp := cp) (A := A) (f := BIG) (left := 500) (s := s) (out := []) (σ := [])).1 h
      simp at this
      dsimp only
      omega
    · rename_i h
      have := (exF_asks (cp := cp) (A := A) (f := BIG) (left := 500) (s := s) (out := []) (σ := [])).2 h
      simpa using this
  · simp
set_option maxHeartbeats 3200000 in
theorem same_spec (w0 : World) (s : ByteArray) (cp : Bool) (NA : Option Addr) (n nc : Nat) (A : List ByteArray) (hA : Sl Rp.str w0 [] (.slice NA n nc) A) (hs : s.size ≤ 1000000) (ha : ∀ a ∈ A, a.size ≤ 100000) :
    Calls Try.prog 9 #[.string s, .bool cp, .slice NA n nc] w0 fun e w' => e = .returned (.bool true) ∧ Below w0.heap.size w0 w' := by
  have hmf : ∀ (fn : Fn) (first cap : Array Value) (w : World), (Instr.makeFunc fn first cap).run Try.prog w = .ok (.func fn first cap) w := fun _ _ _ _ => rfl
  obtain ⟨h1, h2, hb⟩ := tel_start w0 A _ hA
  have HS := Lib.hid (And.intro h1 (And.intro h2 hb))
  clear h1 h2 hb hA
  go_enter Try.func9, Try.ntmps9
  go_wp2_with fail
  refine (Expand_spec (tellerLk w0.heap.size w0 A w0.heap.size ha) s cp _ [] [w0.heap.size] HS.out.1 (by simp; omega) (Nat.zero_le _)).mono ?_
  rintro e w2 ⟨t, T1, rfl, ht, hK1, hI2, hT1⟩
  obtain ⟨R, hR⟩ : ∃ R, resOf cp (ansOf A) (bl s) [] = R := ⟨_, rfl⟩
  have hRl : R.2.2.length ≤ 500 := by rw [← hR]; exact resOf_asks
  have hR' : resOf cp (tellerLk w0.heap.size w0 A w0.heap.size ha).ans (bl s) [] = R := hR
  rw [hR'] at ht hI2 ⊢
  obtain rfl := ba_of ht
  have HI2 := Lib.hid (And.intro hI2 hT1)
  have HW2 := Lib.hid (HS.out.2.1.keep (by decide) hK1 (fun b hb => by simp at hb; subst hb; exact ⟨Nat.le_refl _, by simp⟩))
  have HB2 := Lib.hid (HS.out.2.2.trans (hK1.below_of (by simp; omega) (fun b hb => by simp at hb; omega)))
  have HZ := hK1.size
  simp at HZ
  clear ht hI2 hT1 hK1 hR'
  go_wp2_with fail
  refine (RExpand_spec w0.heap.size w0 A (w0.heap.size + 1) ha s cp w2 [] [w0.heap.size + 1] hs HW2.out (by omega) (Nat.zero_le _)).mono ?_
  rintro e w3 ⟨T2, rfl, hI3, hK2, hT2⟩
  rw [hR] at hI3 ⊢
  have hI4 := TelInv.keep (by decide) HI2.out.1 hK2 (fun b hb => by
    simp at hb; subst hb
    exact ⟨by omega, fun h => by have := HI2.out.2 _ h; simp at this; omega⟩)
  obtain ⟨A1, k1, c1, s1⟩ := hI4.asks
  obtain ⟨A2, k2, c2, s2⟩ := hI3.asks
  have HC : Hid (∀ n, Calls Try.prog 17 #[.slice A1 R.2.2.length k1, .slice A2 R.2.2.length k2] (w3.drewN n) fun e w' => e = .returned (.bool true) ∧ ∃ q, w' = (w3.drewN n).drewN q) := Lib.hid (fun n =>
    sameAsks_spec (w3.drewN n) A1 A2 _ k1 _ k2 R.2.2 (s1.move (fun b _ _ => ⟨by simp, rfl⟩)) (s2.move (fun b _ _ => ⟨by simp, rfl⟩)) (by omega))
  have HB3 := Lib.hid (HB2.out.trans (hK2.below_of (B := w0.heap.size) (by omega) (fun b hb => by simp at hb; omega)))
  clear hI4 hI3 hK2 hT2 s1 s2
  obtain ⟨r1, r2, r3⟩ := R
  dsimp only at *
  go_wp2_with fail
  go_quiet ((go_at_call 17; exact Calls.quiet_of (HC.out _)))
  go_wp2_with fail
  go_ret
  exact ⟨rfl, below_drewN HB3.out _⟩
end Go.Proofs.Ytcahlfafadabaaa
