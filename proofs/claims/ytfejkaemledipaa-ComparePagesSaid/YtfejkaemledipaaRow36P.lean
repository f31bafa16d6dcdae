/- Every call of frisketlaw36.ComparePages returns true and leaves what its arguments hold as it was. Conditions: none beyond the given row's own. -/
import Derived.Test.YtfejkaemledipaaRows
import Derived.Test.YtfejkaemledipaaLaw36P
import Derived.Test.YtfejkaemledipaaReads
import Derived.ProofKit
import Derived.OpenShut
import Derived.ShutString
import Derived.ChangeOld
import Derived.Below
import Derived.Lib.SmallJoins
namespace Go.Proofs.Ytfejkaemledipaa.comparePages
open Go.ChangeShapes Go.WideShapes Go.ChangeAt Go.RowKit
open Go.ChangeMaps (open_string shut_string)
set_option linter.unusedVariables false
theorem own : ownKnob Try.prog.godebug = none := by kernel_rfl
theorem laidOut : laidOutB Try.prog = true := by kernel_rfl
section
variable {H : Type} (enc : TypeId × Value → H) (W : World)
theorem opMark : Op enc Try.prog W 45 rMark (fun m => m.n.length ≤ 17592186044416) :=
  op_imp (op_iso (op_struct (d := Rp.pair (Rp.int .i64) (Rp.pair (Rp.int .i64) (Rp.pair (Rp.int .i64) (Rp.pair (Rp.int .i64) (Rp.pair (Rp.int .i64) (Rp.pair Rp.str (Rp.pair Rp.str (Rp.pair Rp.str rInts)))))))) Try.underlying45 (by kernel_rfl)
    (fop_cons (op_int Try.underlying3) rfl (by kernel_rfl) (fop_cons (op_int Try.underlying3) rfl (by kernel_rfl) (fop_cons (op_int Try.underlying3) rfl (by kernel_rfl) (fop_cons (op_int Try.underlying3) rfl (by kernel_rfl) (fop_cons (op_int Try.underlying3) rfl (by kernel_rfl)
      (fop_cons (op_str Try.underlying9) rfl (by kernel_rfl) (fop_cons (op_str Try.underlying9) rfl (by kernel_rfl) (fop_cons (op_str Try.underlying9) rfl (by kernel_rfl)
        (fop_last (op_slice (d := Rp.int .i64) (B := 8) (by decide) Try.underlying43 (by kernel_rfl) (by kernel_rfl) (op_int Try.underlying3) 0) rfl (by kernel_rfl))))))))))) (fun m : Mark => (m.page, m.x, m.y, m.font, m.size, m.colour, m.name, m.stroke, m.n)) (fun t => ⟨t.1, t.2.1, t.2.2.1, t.2.2.2.1, t.2.2.2.2.1, t.2.2.2.2.2.1, t.2.2.2.2.2.2.1, t.2.2.2.2.2.2.2.1, t.2.2.2.2.2.2.2.2⟩) (fun _ => rfl))
    (fun m h => by have := h.2.2.2.2.2.2.2.2.2; have e : reachBytes = 140737488351232 := rfl; rw [e] at this; dsimp only at this; omega)
def noMark : Mark := ⟨0, 0, 0, 0, 0, ⟨#[]⟩, ⟨#[]⟩, ⟨#[]⟩, []⟩
theorem opMarks : Op enc Try.prog W 22 rMarks (fun l => (∀ m ∈ l, m.n.length ≤ 17592186044416) ∧ l.length * 112 ≤ reachBytes) :=
  op_slice (d := rMark) (B := 112) (by decide) Try.underlying22 (by kernel_rfl) (by kernel_rfl) (opMark enc W) noMark
end
set_option maxRecDepth 100000 in
theorem lifted (os : Os) (started : os.Started) (H : Type) (enc : TypeId × Value → H) :
    ReturnsInHanded {} Try.checked os 3 .any (Rows.comparePagesSpec.pre6 enc Try.prog Try.f3 Rows.comparePagesRow.domain false) (Rows.comparePagesSpec.post enc Try.prog Try.f3 false true false false) := by
  refine returnsInHanded_of_change_sized (C := Try.checked) own started (by kernel_rfl) Try.func3
    (ChangeSpec.witness6 (enc := enc) (C := Try.checked) false ⟨#[], #[.slice none 0 0, .agg #[.int .i64 0, .slice none 0 0], .agg #[.int .i64 0, .slice none 0 0]], []⟩ 8 (by kernel_rfl) (by kernel_rfl) (by kernel_rfl) (by kernel_rfl)) ?_
  intro W base args ds gs before hval0 hW hcnd hsz0 _
  have hsz : (DataW.weightsEach Try.prog (Try.f3.params.toList ++ Rows.comparePagesSpec.plain.varTypes Try.prog) (ds ++ gs)).all (· ≤ reachBytes) = true := hsz0
  have hval : ∀ (j : Nat) t v, Try.f3.params[j]? = some t → args[j]? = some v → Value.okWide Try.prog W .any base t v := hval0
  have hW' := hW
  obtain ⟨p, q, hA0, hV, rfl, hfz, hnd⟩ := hW
  have hA : DataW.TrodAll enc Try.prog W 0 (fun _ => true) true Try.f3.params.toList args.toList ds p := hA0
  rw [Try.params3] at hA hval hsz
  obtain ⟨v0, vs0, d0, ds0, p0, q0, hargs, rfl, rfl, h0, r0⟩ := trodAll_cons hA
  obtain ⟨v1, vs1, d1, ds1, p1, q1, rfl, rfl, rfl, h1, r1⟩ := trodAll_cons r0
  obtain ⟨v2, vs2, d2, ds2, p2, q2, rfl, rfl, rfl, h2, r2⟩ := trodAll_cons r1
  obtain ⟨rfl, rfl, rfl⟩ := trodAll_nil r2
  obtain rfl : args = #[v0, v1, v2] := by cases args; simp_all
  obtain ⟨rfl, rfl⟩ := trodVars_none hV
  have k0 := h0
  have k1 := h1
  have k2 := h2
  have lt0 : ∀ x ∈ p0, x.block < W.heap.size := by obtain ⟨m, hm⟩ := k0; exact DataW.trod_lt m _ _ _ hm
  have lt1 : ∀ x ∈ p1, x.block < W.heap.size := by obtain ⟨m, hm⟩ := k1; exact DataW.trod_lt m _ _ _ hm
  have lt2 : ∀ x ∈ p2, x.block < W.heap.size := by obtain ⟨m, hm⟩ := k2; exact DataW.trod_lt m _ _ _ hm
  have wts : ∀ {j : Nat} {t : TypeId} {d : DataW H}, ([22, 24, 24] ++ Rows.comparePagesSpec.plain.varTypes Try.prog)[j]? = some t → ([d0, d1, d2] ++ [])[j]? = some d → ∀ n ∈ DataW.weights Try.prog t d, n ≤ reachBytes := by
    intro j t d ht hd n hn
    have := List.all_eq_true.1 hsz n (DataW.weights_mem_each ht hd n hn)
    simpa using this
  obtain ⟨a0, len0, cap0, rfl⟩ := okWide_slice Try.underlying22 (hval 0 22 v0 rfl rfl)
  obtain ⟨m, hm, hN⟩ : ∃ m : List Mark, (rMarks.K W [] m [.slice a0 len0 cap0]) ∧ ∀ x ∈ m, x.n.length ≤ 17592186044416 := by
    obtain ⟨fuel, hf⟩ := h0
    obtain ⟨m, hk, hq⟩ := opMarks enc W fuel _ _ hf (wts (j := 0) rfl rfl)
    exact ⟨m, hk, hq.1⟩
  have page : ∀ {v : Value} {d : DataW H} {ps : List MemPlace}, Value.okWide Try.prog W .any base 24 v → DataW.Trod enc Try.prog W 0 (fun _ => true) true 24 v d ps → (∀ n ∈ DataW.weights Try.prog 24 d, n ≤ reachBytes) →
      ∃ (pg : Page) (A : Option Addr) (c : Nat), v = .agg #[.int .i64 pg.number, .slice A pg.marks.length c] ∧ Sl rMark W [] (.slice A pg.marks.length c) pg.marks := by
    intro v d ps hv h hw
    obtain ⟨u0, u1, y0, y1, n, rfl, rfl, rfl, t0, t1⟩ := Go.Joins.open_agg2 Try.underlying24 (by kernel_rfl) (by kernel_rfl) hv h
    obtain ⟨z, hz, _, _⟩ := DataW.trod_int Try.underlying3 t0
    simp only [List.cons.injEq, and_true] at hz
    subst hz
    obtain ⟨l, ⟨u, hu, hk⟩, _⟩ := opMarks enc W n _ _ t1 (fun k hk => hw k (by rw [DataW.weights, Try.underlying24]; simp only [List.map_cons, List.map_nil, DataW.weightsEach, List.mem_append]; exact .inr (.inl hk)))
    simp only [List.cons.injEq, and_true] at hu
    subst hu
    obtain ⟨A, c, rfl⟩ := hk.val
    exact ⟨⟨z, l⟩, A, c, rfl, hk⟩
  obtain ⟨pa, A1, c1, rfl, ha⟩ := page (hval 1 24 v1 rfl rfl) h1 (wts (j := 1) rfl rfl)
  obtain ⟨pb, A2, c2, rfl, hb⟩ := page (hval 2 24 v2 rfl rfl) h2 (wts (j := 2) rfl rfl)
  obtain ⟨u, hu, hm⟩ := hm
  simp only [List.cons.injEq, and_true] at hu
  subst hu
  obtain rfl := hm.len_eq
  clear hA0 hval0 hsz0 hsz page wts
  refine (law_spec W a0 cap0 m pa pb A1 A2 c1 c2 hm ha hb hN).mono fun e W' ⟨he, bel⟩ => ?_
  subst he
  exact ⟨_, rfl, _, _, _, [], _, [], hW', trodAll_mk1 (shut_bool Try.underlying4 _), trodAll_cons_mk (Below.trod laidOut (by kernel_rfl) (of_decide_eq_true (by kernel_rfl)) k0 bel lt0) (trodAll_cons_mk (Below.trod laidOut (by kernel_rfl) (of_decide_eq_true (by kernel_rfl)) k1 bel lt1) (trodAll_cons_mk (Below.trod laidOut (by kernel_rfl) (of_decide_eq_true (by kernel_rfl)) k2 bel lt2) trodAll_mk0)), rfl, bel.frame _, fun h => by cases h⟩
theorem over : Rows.comparePagesRow.holds Try.pinned (OpenSpec.ofChange Rows.comparePagesSpec) :=
  OpenClaim.holds_of_wide 3 Try.f3 rfl rfl rfl rfl rfl rfl rfl ⟨rfl, rfl, rfl, rfl, rfl⟩ rfl rfl rfl rfl rfl (by kernel_rfl) Try.func3 (by kernel_rfl)
    (of_decide_eq_true (by kernel_rfl)) (by unfold Func.isWrapper; first | (rw [if_pos (by decide +kernel)]; kernel_rfl) | (rw [if_neg (by decide +kernel)]; exact ⟨rfl, rfl⟩))
    (fun os started H enc _ => lifted os started H enc)
theorem proved : Rows.ComparePagesSaid := over
#print axioms proved
end Go.Proofs.Ytfejkaemledipaa.comparePages
namespace Go.Proofs.Ytfejkaemledipaa
/-- The row, under a short name, for the claim. -/
theorem comparePages_holds : Rows.ComparePagesSaid := comparePages.proved
end Go.Proofs.Ytfejkaemledipaa
