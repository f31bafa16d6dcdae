/- What a row's reading gives: the representation of each argument, with the bounds that its weight allows. -/
import Derived.Test.YtcahlfafadabaaaRep
import Derived.Deep.Slices
import Derived.ChangeSame
import Derived.SizedLaws
namespace Go.Proofs.Ytcahlfafadabaaa
open Go.ChangeShapes Go.WideShapes Go.Deep

section
variable {H : Type} (enc : TypeId × Value → H) (P : Program) (W : World)
/-- Whatever reads at type t is represented by d, and Q holds of it. -/
def Op {α : Type} (t : TypeId) (d : Rp α) (Q : α → Prop) : Prop :=
  ∀ (fuel : Nat) (cs : List Value) (x : DataW H × List MemPlace), DataW.trod enc P W 0 (fun _ => true) true fuel t cs = some x → (∀ n ∈ DataW.weights P t x.1, n ≤ reachBytes) → ∃ a, d.K W [] a cs ∧ Q a
/-- The same of consecutive fields, from offset o on. -/
def FOp {α : Type} (fs : List Field) (o : Nat) (d : Rp α) (Q : α → Prop) : Prop :=
  ∀ (n : Nat) (cs : List Value) (xs : List (DataW H × List MemPlace)), o + d.sz = cs.length → xs.length = fs.length → (∀ (i : Nat) (f : Field), fs[i]? = some f → DataW.trod enc P W 0 (fun _ => true) true n f.type ((cs.drop f.offset).take (P.cellsOf f.type)) = xs[i]?) →
    (∀ n ∈ DataW.weightsEach P (fs.map (·.type)) (xs.map (·.1)), n ≤ reachBytes) → ∃ a, d.K W [] a (cs.drop o) ∧ Q a

variable {enc P W}
theorem op_int {t : TypeId} {k : IntKind} (ht : P.underlying t = some (.int k)) : Op enc P W t (Rp.int k) (fun a => (Lit.int k a).wf = true) := by
  intro fuel cs x h _
  obtain ⟨n, rfl, _, hw⟩ := DataW.trod_int ht h
  exact ⟨n, rfl, hw⟩
theorem op_bool {t : TypeId} (ht : P.underlying t = some .bool) : Op enc P W t Rp.bool (fun _ => True) := by
  intro fuel cs x h _
  cases fuel with
  | zero => simp [DataW.trod] at h
  | succ n =>
    unfold DataW.trod at h
    rw [ht] at h
    split at h <;> first | (exact ⟨_, rfl, trivial⟩) | simp_all
theorem op_str {t : TypeId} (ht : P.underlying t = some .string) : Op enc P W t Rp.str (fun a => a.size ≤ reachBytes) := by
  intro fuel cs x h hw
  obtain ⟨s, rfl, rfl, _⟩ := DataW.trod_string ht h
  refine ⟨s, rfl, ?_⟩
  have := hw s.data.toList.length (by simp [DataW.weights])
  simpa using this
theorem weights_all {t : TypeId} {ds : List (DataW H)} {d : DataW H} (h : d ∈ ds) : ∀ n ∈ d.weights P t, n ∈ DataW.weightsAll P t ds := by
  induction ds with
  | nil => cases h
  | cons x r ih =>
    intro n hn
    rw [DataW.weightsAll, List.mem_append]
    rcases List.mem_cons.1 h with h | h
    · subst h; exact .inl hn
    · exact .inr (ih h n hn)
theorem op_slice {α : Type} {t e : TypeId} {d : Rp α} {Q : α → Prop} {B : Nat} (hpos : 0 < d.sz) (ht : P.underlying t = some (.slice e)) (hc : P.cellsOf e = d.sz) (hb : P.bytesOf e = B) (he : Op enc P W e d Q) (hinh : α) :
    Op enc P W t (Rp.slice d) (fun xs => (∀ x ∈ xs, Q x) ∧ xs.length * B ≤ reachBytes) := by
  intro fuel cs x h hw
  rcases open_slice ht h with ⟨rfl, rfl⟩ | ⟨a, len, cap, m, n, D, Pl, rfl, _, hl, hm, hmm, rfl, hx⟩
  · exact ⟨[], ⟨_, rfl, none, 0, rfl, Nat.le_refl _, by simp [maxLen], fun _ => rfl, fun h => absurd rfl h⟩, by simp, by simp⟩
  · simp only [if_true] at hmm
    subst hmm
    have hwe : ∀ i, i < m → ∀ k ∈ DataW.weights P e (D i), k ≤ reachBytes := by
      intro i hi k hk
      refine hw k ?_
      rw [DataW.weights, ht]
      simp only [List.mem_cons, List.mem_append]
      refine .inr ?_
      rcases Nat.lt_or_ge i len with h | h
      · exact .inl (weights_all (List.mem_map.2 ⟨i, List.mem_range.2 h, rfl⟩) k hk)
      · refine .inr (weights_all (List.mem_map.2 ⟨i - len, List.mem_range.2 (by omega), ?_⟩) k hk)
        show D (len + (i - len)) = D i
        rw [show len + (i - len) = i from by omega]
    have each : ∀ i, i < m → ∃ x, (∃ cs', W.cells? 0 (a.add (i * P.cellsOf e)) (P.cellsOf e) = some cs' ∧ d.K W [] x cs') ∧ Q x := fun i hi => by
      obtain ⟨cs', h1, h2⟩ := hx i hi
      obtain ⟨x, k1, k2⟩ := he n cs' _ h2 (hwe i hi)
      exact ⟨x, ⟨cs', h1, k1⟩, k2⟩
    obtain ⟨X, hX⟩ := @choose_lt α ⟨hinh⟩ m (fun i x => (∃ cs', W.cells? 0 (a.add (i * P.cellsOf e)) (P.cellsOf e) = some cs' ∧ d.K W [] x cs') ∧ Q x) each
    have hlx : ((List.range len).map X).length = len := by simp
    refine ⟨(List.range len).map X, ⟨_, rfl, some a, m, by rw [hlx], by rw [hlx]; exact hl, by rw [hlx]; omega, (fun h => by cases h), fun hne => ?_⟩, fun x hx' => ?_, ?_⟩
    · have hlen : 0 < len := by rcases Nat.eq_zero_or_pos len with h | h; (· rw [h] at hne; exact absurd rfl hne); exact h
      have cell : ∀ i, i < len → ∀ cs', W.cells? 0 (a.add (i * P.cellsOf e)) (P.cellsOf e) = some cs' → ∀ j u, cs'[j]? = some u → W.cell? (a.add (i * d.sz + j)) = some u := by
        intro i hi cs' h j u hj
        obtain ⟨_, hln, hcell⟩ := World.cells?_some h
        have hjl : j < cs'.length := (List.getElem?_eq_some_iff.1 hj).1
        have := hcell j (by omega)
        rw [Go.Deep.add_add, hc] at this
        rw [this, hj]
      obtain ⟨⟨cs0, h0, k0⟩, _⟩ := hX 0 (by omega)
      have hl0 := d.len k0
      have c00 := cell 0 hlen cs0 h0 0 (cs0[0]'(by omega)) (List.getElem?_eq_getElem (by omega))
      rw [show 0 * d.sz + 0 = 0 from by omega, show a.add 0 = a from rfl] at c00
      obtain ⟨b, o, sp⟩ := a
      obtain rfl : sp = none := by
        cases sp with
        | none => rfl
        | some q => simp only [World.cell?] at c00; split at c00 <;> simp at c00
      refine ⟨b, o, rfl, World.block_lt_of_cell? W _ c00, by simp, fun i x hi => ?_⟩
      have hil : i < len := by have := (List.getElem?_eq_some_iff.1 hi).1; omega
      have hxi : X i = x := by rw [List.getElem?_map, List.getElem?_range hil] at hi; simpa using hi
      obtain ⟨⟨cs', h1, k1⟩, _⟩ := hX i (by omega)
      refine ⟨cs', hxi ▸ k1, fun j u hj => ?_⟩
      have := cell i hil cs' h1 j u hj
      rw [add_plain] at this
      rw [show o + i * d.sz + j = o + (i * d.sz + j) from by omega]
      exact this
    · obtain ⟨i, hi, rfl⟩ := List.mem_map.1 hx'
      exact (hX i (by have := List.mem_range.1 hi; omega)).2
    · have := hw ((((List.range len).map D).length + ((List.range (m - len)).map fun j => D (len + j)).length) * P.bytesOf e) (by rw [DataW.weights, ht]; simp)
      rw [hb] at this
      rw [hlx]
      refine Nat.le_trans (Nat.mul_le_mul_right _ ?_) this
      simp
theorem op_iso {α β : Type} {t : TypeId} {d : Rp α} {Q : α → Prop} (h : Op enc P W t d Q) (f : β → α) (g : α → β) (hfg : ∀ a, f (g a) = a) : Op enc P W t (Rp.iso d f) (fun b => Q (f b)) := by
  intro fuel cs x hx hw
  obtain ⟨a, h1, h2⟩ := h fuel cs x hx hw
  exact ⟨g a, by show d.K W [] (f (g a)) cs; rw [hfg]; exact h1, by show Q (f (g a)); rw [hfg]; exact h2⟩
theorem op_imp {α : Type} {t : TypeId} {d : Rp α} {Q Q' : α → Prop} (h : Op enc P W t d Q) (hq : ∀ a, Q a → Q' a) : Op enc P W t d Q' :=
  fun fuel cs x hx hw => let ⟨a, h1, h2⟩ := h fuel cs x hx hw; ⟨a, h1, hq _ h2⟩
theorem fop_last {α : Type} {f : Field} {o : Nat} {d : Rp α} {Q : α → Prop} (h : Op enc P W f.type d Q) (ho : f.offset = o) (hc : P.cellsOf f.type = d.sz) : FOp enc P W [f] o d Q := by
  intro n cs xs hl hxl hx hw
  match xs, hxl with
  | [y], _ =>
    have h0 := hx 0 f rfl
    rw [ho, hc, List.take_of_length_le (by rw [List.length_drop]; omega)] at h0
    exact h n _ y h0 (fun k hk => hw k (by simp [DataW.weightsEach]; exact hk))
theorem fop_cons {α β : Type} {f : Field} {fs : List Field} {o : Nat} {d1 : Rp α} {d2 : Rp β} {Q1 : α → Prop} {Q2 : β → Prop} (h1 : Op enc P W f.type d1 Q1) (ho : f.offset = o) (hc : P.cellsOf f.type = d1.sz) (h2 : FOp enc P W fs (o + d1.sz) d2 Q2) :
    FOp enc P W (f :: fs) o (Rp.pair d1 d2) (fun p => Q1 p.1 ∧ Q2 p.2) := by
  intro n cs xs hl hxl hx hw
  match xs, hxl with
  | y :: ys, hxl =>
    have h0 := hx 0 f rfl
    rw [ho, hc] at h0
    have hps : (Rp.pair d1 d2).sz = d1.sz + d2.sz := rfl
    rw [hps] at hl
    simp only [List.map_cons, DataW.weightsEach, List.mem_append] at hw
    obtain ⟨a, ka, qa⟩ := h1 n _ y h0 (fun k hk => hw k (.inl hk))
    obtain ⟨b, kb, qb⟩ := h2 n cs ys (by omega) (by simpa using hxl) (fun i g hg => by simpa using hx (i + 1) g (by simpa using hg)) (fun k hk => hw k (.inr hk))
    refine ⟨(a, b), ⟨_, _, ?_, ka, kb⟩, qa, qb⟩
    rw [← List.drop_drop, List.take_append_drop]
theorem op_struct {α : Type} {t : TypeId} {fs : List Field} {d : Rp α} {Q : α → Prop} (ht : P.underlying t = some (.struct fs.toArray)) (hc : P.cellsOf t = d.sz) (h : FOp enc P W fs 0 d Q) : Op enc P W t d Q := by
  intro fuel cs x hx hw
  obtain ⟨xs, n, _, rfl, hl, hlen, hf⟩ := DataW.trod_struct ht hx
  have := h n cs xs (by omega) (by simpa using hlen) (fun i f hi => hf i f (by simpa using hi)) (fun k hk => hw k (by rw [DataW.weights, ht]; simpa using hk))
  simpa using this
end
end Go.Proofs.Ytcahlfafadabaaa
