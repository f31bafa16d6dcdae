/- Every call of frisketlaw04.ExpandBits returns true and leaves what its arguments hold as it was. Conditions: none beyond the given row's own. -/
import Derived.Test.YtcahlfafadabaaaRows
import Derived.Test.YtcahlfafadabaaaBitsL04
import Derived.Test.YtcahlfafadabaaaReads
import Derived.ProofKit
import Derived.OpenShut
import Derived.ShutString
import Derived.ChangeOld
import Derived.Below
import Derived.SizedLaws
namespace Go.Proofs.Ytcahlfafadabaaa.expandBits
open Go.ChangeShapes Go.WideShapes Go.ChangeAt Go.RowKit
open Go.ChangeMaps (open_string shut_string)
set_option linter.unusedVariables false
theorem own : ownKnob Try.prog.godebug = none := by kernel_rfl
theorem laidOut : laidOutB Try.prog = true := by kernel_rfl
set_option maxRecDepth 100000 in
theorem lifted (os : Os) (started : os.Started) (H : Type) (enc : TypeId × Value → H) :
    ReturnsInHanded {} Try.checked os 4 .any (Rows.expandBitsSpec.pre6 enc Try.prog Try.f4 Rows.expandBitsRow.domain false) (Rows.expandBitsSpec.post enc Try.prog Try.f4 false true false false) := by
  refine returnsInHanded_of_change_sized (C := Try.checked) own started (by kernel_rfl) Try.func4
    (ChangeSpec.witness6 (enc := enc) (C := Try.checked) false ⟨#[], #[.slice none 0 0, .bool false, .slice none 0 0], []⟩ 8 (by kernel_rfl) (by kernel_rfl) (by kernel_rfl) (by kernel_rfl)) ?_
  intro W base args ds gs before hval0 hW hcnd hsz0 _
  have hsz : (DataW.weightsEach Try.prog (Try.f4.params.toList ++ Rows.expandBitsSpec.plain.varTypes Try.prog) (ds ++ gs)).all (· ≤ reachBytes) = true := hsz0
  have hval : ∀ (j : Nat) t v, Try.f4.params[j]? = some t → args[j]? = some v → Value.okWide Try.prog W .any base t v := hval0
  have hW' := hW
  obtain ⟨p, q, hA0, hV, rfl, hfz, hnd⟩ := hW
  have hA : DataW.TrodAll enc Try.prog W 0 (fun _ => true) true Try.f4.params.toList args.toList ds p := hA0
  rw [Try.params4] at hA hval hsz
  obtain ⟨v0, vs0, d0, ds0, p0, q0, hargs, rfl, rfl, h0, r0⟩ := trodAll_cons hA
  obtain ⟨v1, vs1, d1, ds1, p1, q1, rfl, rfl, rfl, h1, r1⟩ := trodAll_cons r0
  obtain ⟨v2, vs2, d2, ds2, p2, q2, rfl, rfl, rfl, h2, r2⟩ := trodAll_cons r1
  obtain ⟨rfl, rfl, rfl⟩ := trodAll_nil r2
  obtain rfl : args = #[v0, v1, v2] := by cases args; simp_all
  obtain ⟨rfl, rfl⟩ := trodVars_none hV
  have k0 := h0
  have k2 := h2
  have lt0 : ∀ x ∈ p0, x.block < W.heap.size := by obtain ⟨m, hm⟩ := k0; exact DataW.trod_lt m _ _ _ hm
  have lt2 : ∀ x ∈ p2, x.block < W.heap.size := by obtain ⟨m, hm⟩ := k2; exact DataW.trod_lt m _ _ _ hm
  have wts : ∀ {j : Nat} {t : TypeId} {d : DataW H}, ([26, 4, 27] ++ Rows.expandBitsSpec.plain.varTypes Try.prog)[j]? = some t → ([d0, d1, d2] ++ [])[j]? = some d → ∀ n ∈ DataW.weights Try.prog t d, n ≤ reachBytes := by
    intro j t d ht hd n hn
    have := List.all_eq_true.1 hsz n (DataW.weights_mem_each ht hd n hn)
    simpa using this
  have byteQ : ∀ a : Int, (Lit.int .u8 a).wf = true → 0 ≤ a ∧ a ≤ 255 := by
    intro a h
    have h1 : IntKind.u8.min = 0 := rfl
    have h2 : IntKind.u8.max = 255 := rfl
    simp only [Lit.wf, h1, h2, Bool.and_eq_true, decide_eq_true_eq] at h
    exact h
  obtain ⟨a0, len0, cap0, rfl⟩ := okWide_slice Try.underlying26 (hval 0 26 v0 rfl rfl)
  obtain ⟨a2, len2, cap2, rfl⟩ := okWide_slice Try.underlying27 (hval 2 27 v2 rfl rfl)
  obtain ⟨l, hk0, hN0⟩ : ∃ l : List Int, ((Rp.slice (Rp.int .u8)).K W [] l [.slice a0 len0 cap0]) ∧ ∀ x ∈ l, 0 ≤ x ∧ x ≤ 255 := by
    obtain ⟨fuel, hf⟩ := h0
    obtain ⟨m, hk, hq⟩ := op_slice (d := Rp.int .u8) (B := 1) (by decide) Try.underlying26 (by kernel_rfl) (by kernel_rfl) (op_int Try.underlying5) (0 : Int) fuel _ _ hf (wts (j := 0) rfl rfl)
    exact ⟨m, hk, fun x hx => byteQ x (hq.1 x hx)⟩
  obtain ⟨M, hk2, hN2⟩ : ∃ M : List (List Int), ((Rp.slice (Rp.slice (Rp.int .u8))).K W [] M [.slice a2 len2 cap2]) ∧ ∀ m ∈ M, ∀ x ∈ m, 0 ≤ x ∧ x ≤ 255 := by
    obtain ⟨fuel, hf⟩ := h2
    obtain ⟨m, hk, hq⟩ := op_slice (d := Rp.slice (Rp.int .u8)) (B := 24) (by decide) Try.underlying27 (by kernel_rfl) (by kernel_rfl) (op_slice (d := Rp.int .u8) (B := 1) (by decide) Try.underlying26 (by kernel_rfl) (by kernel_rfl) (op_int Try.underlying5) (0 : Int)) ([] : List Int) fuel _ _ hf (wts (j := 2) rfl rfl)
    exact ⟨m, hk, fun x hx y hy => byteQ y ((hq.1 x hx).1 y hy)⟩
  obtain ⟨a1, rfl, rfl, rfl⟩ := open_bool Try.underlying4 (hval 1 4 v1 rfl rfl) h1
  obtain ⟨u0, hu0, hm0⟩ := hk0
  simp only [List.cons.injEq, and_true] at hu0
  subst hu0
  obtain ⟨u2, hu2, hm2⟩ := hk2
  simp only [List.cons.injEq, and_true] at hu2
  subst hu2
  clear hA0 hval0 hsz0 hsz wts byteQ
  refine (bits_law W a0 len0 cap0 l hm0 hN0 a1 a2 len2 cap2 M hm2 hN2).mono fun e W' ⟨he, bel⟩ => ?_
  subst he
  exact ⟨_, rfl, _, _, _, [], _, [], hW', trodAll_mk1 (shut_bool Try.underlying4 _), trodAll_cons_mk (Below.trod laidOut (by kernel_rfl) (of_decide_eq_true (by kernel_rfl)) k0 bel lt0) (trodAll_cons_mk (shut_bool Try.underlying4 _) (trodAll_cons_mk (Below.trod laidOut (by kernel_rfl) (of_decide_eq_true (by kernel_rfl)) k2 bel lt2) trodAll_mk0)), rfl, bel.frame _, fun h => by cases h⟩
theorem over : Rows.expandBitsRow.holds Try.pinned (OpenSpec.ofChange Rows.expandBitsSpec) :=
  OpenClaim.holds_of_wide 4 Try.f4 rfl rfl rfl rfl rfl rfl rfl ⟨rfl, rfl, rfl, rfl, rfl⟩ rfl rfl rfl rfl rfl (by kernel_rfl) Try.func4 (by kernel_rfl)
    (of_decide_eq_true (by kernel_rfl)) (by unfold Func.isWrapper; first | (rw [if_pos (by decide +kernel)]; kernel_rfl) | (rw [if_neg (by decide +kernel)]; exact ⟨rfl, rfl⟩))
    (fun os started H enc _ => lifted os started H enc)
theorem proved : Rows.ExpandBitsSaid := over
#print axioms proved
end Go.Proofs.Ytcahlfafadabaaa.expandBits
namespace Go.Proofs.Ytcahlfafadabaaa
/-- The row, under a short name, for the claim. -/
theorem expandBits_holds : Rows.ExpandBitsSaid := expandBits.proved
end Go.Proofs.Ytcahlfafadabaaa
