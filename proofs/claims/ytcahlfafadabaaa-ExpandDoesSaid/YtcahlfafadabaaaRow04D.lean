/- Every call of frisketlaw04.ExpandDoes returns true and leaves what its arguments hold as it was. Conditions: none beyond the given row's own. -/
import Derived.Test.YtcahlfafadabaaaRows
import Derived.Test.YtcahlfafadabaaaDoes04
import Derived.Test.YtcahlfafadabaaaReads
import Derived.ProofKit
import Derived.OpenShut
import Derived.ShutString
import Derived.ChangeOld
import Derived.Below
import Derived.SizedLaws
namespace Go.Proofs.Ytcahlfafadabaaa.expandDoes
open Go.ChangeShapes Go.WideShapes Go.ChangeAt Go.RowKit
open Go.ChangeMaps (open_string shut_string)
set_option linter.unusedVariables false
theorem own : ownKnob Try.prog.godebug = none := by kernel_rfl
theorem laidOut : laidOutB Try.prog = true := by kernel_rfl
set_option maxRecDepth 100000 in
theorem lifted (os : Os) (started : os.Started) (H : Type) (enc : TypeId × Value → H) :
    ReturnsInHanded {} Try.checked os 3 .any (Rows.expandDoesSpec.pre6 enc Try.prog Try.f3 Rows.expandDoesRow.domain false) (Rows.expandDoesSpec.post enc Try.prog Try.f3 false true false false) := by
  refine returnsInHanded_of_change_sized (C := Try.checked) own started (by kernel_rfl) Try.func3
    (ChangeSpec.witness6 (enc := enc) (C := Try.checked) false ⟨#[], #[.string ByteArray.empty, .bool false, .slice none 0 0], []⟩ 8 (by kernel_rfl) (by kernel_rfl) (by kernel_rfl) (by kernel_rfl)) ?_
  intro W base args ds gs before hval0 hW hcnd hsz0 _
  have hsz : (DataW.weightsEach Try.prog (Try.f3.params.toList ++ Rows.expandDoesSpec.plain.varTypes Try.prog) (ds ++ gs)).all (· ≤ reachBytes) = true := hsz0
  have hval : ∀ (j : Nat) t v, Try.f3.params[j]? = some t → args[j]? = some v → Value.okWide Try.prog W .any base t v := hval0
  have hW' := hW
  obtain ⟨p, q, hA0, hV, rfl, hfz, hnd⟩ := hW
  have hA : DataW.TrodAll enc Try.prog W 0 (fun _ => true) true Try.f3.params.toList args.toList ds p := hA0
  rw [Try.params3] at hA hval hsz
  obtain ⟨v0, vs0, d0, ds0, p0, q0, hargs, rfl, rfl, h0, r0⟩ := trodAll_cons hA
  obtain ⟨v1, vs1, d1, ds1, p1, q1, rfl, rfl, rfl, h1, r1⟩ := trodAll_cons r0
  obtain ⟨v2, vs2, d2, ds2, p2, q2, rfl, rfl, rfl, h2, r2⟩ := trodAll_cons r1
  obtain ⟨rfl, rfl, rfl⟩ := trodAll_nil r2
  obtain rfl : args = #[v0, v1, v2] := by cases args; simp_all
  obtain ⟨rfl, rfl⟩ := trodVars_none hV
  have k2 := h2
  have lt2 : ∀ x ∈ p2, x.block < W.heap.size := by obtain ⟨m, hm⟩ := k2; exact DataW.trod_lt m _ _ _ hm
  have wts : ∀ {j : Nat} {t : TypeId} {d : DataW H}, ([9, 4, 22] ++ Rows.expandDoesSpec.plain.varTypes Try.prog)[j]? = some t → ([d0, d1, d2] ++ [])[j]? = some d → ∀ n ∈ DataW.weights Try.prog t d, n ≤ reachBytes := by
    intro j t d ht hd n hn
    have := List.all_eq_true.1 hsz n (DataW.weights_mem_each ht hd n hn)
    simpa using this
  have e0 : reachBytes = 140737488351232 := rfl
  obtain ⟨a2, len2, cap2, rfl⟩ := okWide_slice Try.underlying22 (hval 2 22 v2 rfl rfl)
  obtain ⟨A, hk2, hN⟩ : ∃ A : List ByteArray, ((Rp.slice Rp.str).K W [] A [.slice a2 len2 cap2]) ∧ ∀ x ∈ A, x.size ≤ 140737488351232 := by
    obtain ⟨fuel, hf⟩ := h2
    obtain ⟨m, hk, hq⟩ := op_slice (d := Rp.str) (B := 16) (by decide) Try.underlying22 (by kernel_rfl) (by kernel_rfl) (op_str Try.underlying9) (⟨#[]⟩ : ByteArray) fuel _ _ hf (wts (j := 2) rfl rfl)
    exact ⟨m, hk, hq.1⟩
  have k0 := h0
  have w0 := wts (j := 0) rfl rfl
  obtain ⟨a0, rfl, rfl, rfl, y0⟩ := open_string Try.underlying9 (hval 0 9 v0 rfl rfl) h0
  have hss : a0.size ≤ 140737488351232 := by
    obtain ⟨fuel, hf⟩ := k0
    obtain ⟨m, hk, hq⟩ := op_str (enc := enc) Try.underlying9 fuel _ _ hf w0
    have hk : [Value.string a0] = [Value.string m] := hk
    cases hk
    exact hq
  obtain ⟨a1, rfl, rfl, rfl⟩ := open_bool Try.underlying4 (hval 1 4 v1 rfl rfl) h1
  obtain ⟨u, hu, hm⟩ := hk2
  simp only [List.cons.injEq, and_true] at hu
  subst hu
  clear hA0 hval0 hsz0 hsz wts k0 w0
  refine (does_law W a0 a1 a2 len2 cap2 A hm hN hss).mono fun e W' ⟨he, bel⟩ => ?_
  subst he
  exact ⟨_, rfl, _, _, _, [], _, [], hW', trodAll_mk1 (shut_bool Try.underlying4 _), trodAll_cons_mk (shut_string Try.underlying9 y0) (trodAll_cons_mk (shut_bool Try.underlying4 _) (trodAll_cons_mk (Below.trod laidOut (by kernel_rfl) (of_decide_eq_true (by kernel_rfl)) k2 bel lt2) trodAll_mk0)), rfl, bel.frame _, fun h => by cases h⟩
theorem over : Rows.expandDoesRow.holds Try.pinned (OpenSpec.ofChange Rows.expandDoesSpec) :=
  OpenClaim.holds_of_wide 3 Try.f3 rfl rfl rfl rfl rfl rfl rfl ⟨rfl, rfl, rfl, rfl, rfl⟩ rfl rfl rfl rfl rfl (by kernel_rfl) Try.func3 (by kernel_rfl)
    (of_decide_eq_true (by kernel_rfl)) (by unfold Func.isWrapper; first | (rw [if_pos (by decide +kernel)]; kernel_rfl) | (rw [if_neg (by decide +kernel)]; exact ⟨rfl, rfl⟩))
    (fun os started H enc _ => lifted os started H enc)
theorem proved : Rows.ExpandDoesSaid := over
#print axioms proved
end Go.Proofs.Ytcahlfafadabaaa.expandDoes
namespace Go.Proofs.Ytcahlfafadabaaa
/-- The row, under a short name, for the claim. -/
theorem expandDoes_holds : Rows.ExpandDoesSaid := expandDoes.proved
end Go.Proofs.Ytcahlfafadabaaa
