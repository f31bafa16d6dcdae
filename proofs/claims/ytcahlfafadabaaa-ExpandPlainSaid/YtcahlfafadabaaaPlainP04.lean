/- Plain texts, plain: what an expansion does to them, and to the others. No program in sight. -/
import Derived.Test.YtcahlfafadabaaaEx04
namespace Go.Proofs.Ytcahlfafadabaaa

/-- Is nothing changed? -/
def plF : Nat → Bs → Bool
  | 0, _ => true
  | f + 1, s => match stepP false s with
    | .fin => s.isEmpty
    | .adv _ n => plF f (s.drop n)
    | .ask _ _ => false
    | .wid _ _ => false
/-- What is passed is taken as it is. -/
theorem adv_take {s a : Bs} {n : Nat} (h : stepP false s = .adv a n) : a = s.take n := by
  match s, h with
  | c :: r, h =>
    rw [stepP.eq_def] at h
    dsimp only at h
    split at h
    · cases h; rfl
    · rename_i hc
      have hc : c = 92 := by simpa using hc
      subst hc
      split at h
      · cases h; rfl
      · split at h
        · cases h
        · split at h
          · cases h
          · split at h
            · cases h
            · split at h
              · rename_i hh; exact absurd hh.1 (by simp)
              · split at h <;> cases h <;> rfl
theorem exF_mono {cp : Bool} {A : AskR → Bs} {f left : Nat} {s out : Bs} {σ : List AskR} :
    (∀ {σ'}, exF cp A f left s out σ = .fail σ' → σ.length ≤ σ'.length) ∧ (∀ {o l σ'}, exF cp A f left s out σ = .done o l σ' → σ.length ≤ σ'.length) := by
  refine ⟨?_, fun {o l σ'} h => by have := exF_asks.1 h; have := exF_left h; omega⟩
  induction f generalizing left s out σ with
  | zero => intro σ' h; cases h; exact Nat.le_refl _
  | succ f ih =>
    intro σ' h
    rw [exF] at h
    split at h
    · cases h
    · exact ih h
    · split at h
      · cases h; exact Nat.le_refl _
      · split at h
        · cases h; simp
        · have := ih h; rw [List.length_append] at this; omega
    · split at h
      · rename_i hi; cases h; exact ih hi
      · rename_i hi
        have h1 := exF_asks.1 hi
        have h2 := exF_left hi
        split at h
        · cases h; omega
        · split at h
          · cases h; rw [List.length_append]; omega
          · have := ih h; rw [List.length_append] at this; omega
theorem exF_fail_pos {cp : Bool} {A : AskR → Bs} : ∀ {f left : Nat} {s out : Bs} {σ σ' : List AskR}, mu left s < f → 0 < left → exF cp A f left s out σ = .fail σ' → σ.length < σ'.length := by
  intro f
  induction f with
  | zero => intro left s out σ σ' h; omega
  | succ f ih =>
    intro left s out σ σ' hm hl h
    rw [exF] at h
    split at h
    · cases h
    · rename_i hs
      have := stepP_adv hs
      exact ih (by unfold mu at *; rw [List.length_drop]; omega) hl h
    · split at h
      · omega
      · split at h
        · cases h; simp
        · have := exF_mono.1 h; rw [List.length_append] at this; simp at this; omega
    · rename_i hs
      have hw := widthP_le (stepP_wid hs).2.1
      split at h
      · rename_i hi
        cases h
        exact ih (by unfold mu at *; omega) hl hi
      · rename_i hi
        have h1 := exF_asks.1 hi
        split at h
        · cases h; omega
        · split at h
          · cases h; have := exF_left hi; rw [List.length_append, List.length_singleton]; omega
          · have := exF_mono.1 h; have := exF_left hi; rw [List.length_append, List.length_singleton] at *; omega
theorem plain_same {A : AskR → Bs} : ∀ {f f2 left : Nat} {s out : Bs} {σ : List AskR}, mu left s < f → s.length < f2 → plF f2 s = true → exF false A f left s out σ = .done (out ++ s) left σ := by
  intro f
  induction f with
  | zero => intro f2 left s out σ h; omega
  | succ f ih =>
    intro f2 left s out σ hm h2 hp
    obtain ⟨g, rfl⟩ : ∃ g, f2 = g + 1 := ⟨f2 - 1, by omega⟩
    rw [plF] at hp
    rw [exF]
    split at hp
    · rename_i hs
      rw [hs]
      have : s = [] := by simpa using hp
      subst this
      rw [List.append_nil]
    · rename_i hs
      rw [hs]
      have h3 := stepP_adv hs
      have h4 := adv_take hs
      show exF false A f left (s.drop _) (out ++ _) σ = _
      rw [ih (by unfold mu at *; rw [List.length_drop]; omega) (by rw [List.length_drop]; omega) hp, h4, List.append_assoc, List.take_append_drop]
    · cases hp
    · cases hp
theorem other_less {A : AskR → Bs} : ∀ {f f2 left : Nat} {s out : Bs} {σ : List AskR}, mu left s < f → 0 < left → s.length < f2 → plF f2 s = false →
    (∃ o, exF false A f left s out σ = .done o left σ ∧ o.length < out.length + s.length) ∨ (∃ o l σ', exF false A f left s out σ = .done o l σ' ∧ σ.length < σ'.length) ∨ (∃ σ', exF false A f left s out σ = .fail σ' ∧ σ.length < σ'.length) := by
  intro f
  induction f with
  | zero => intro f2 left s out σ h; omega
  | succ f ih =>
    intro f2 left s out σ hm hl h2 hp
    obtain ⟨g, rfl⟩ : ∃ g, f2 = g + 1 := ⟨f2 - 1, by omega⟩
    have hm0 := hm
    rw [plF] at hp
    split at hp
    · rename_i hs
      left
      refine ⟨out, by rw [exF, hs], ?_⟩
      have : s ≠ [] := by intro e; subst e; cases hp
      have := List.length_pos_iff.2 this
      omega
    · rename_i a n hs
      have h3 := stepP_adv hs
      have e : exF false A (f + 1) left s out σ = exF false A f left (s.drop n) (out ++ a) σ := by rw [exF, hs]
      rw [e]
      rcases ih (out := out ++ a) (σ := σ) (by unfold mu at *; rw [List.length_drop]; omega) hl (by rw [List.length_drop]; omega) hp with ⟨o, h, ho⟩ | h | h
      · refine .inl ⟨o, h, ?_⟩
        rw [List.length_append, List.length_drop] at ho
        omega
      · exact .inr (.inl h)
      · exact .inr (.inr h)
    · rename_i q n hs
      have e : exF false A (f + 1) left s out σ = if left = 0 then .fail σ else if 8000 < (nxOut A q out).length + (nxS A q (s.drop n)).length then .fail (σ ++ [q]) else exF false A f (left - 1) (nxS A q (s.drop n)) (nxOut A q out) (σ ++ [q]) := by rw [exF, hs]
      rw [if_neg (by omega)] at e
      cases hr : exF false A (f + 1) left s out σ with
      | done o l σ' =>
        right; left
        refine ⟨o, l, σ', rfl, ?_⟩
        rw [hr] at e
        split at e
        · cases e
        · have := exF_mono.2 e.symm; rw [List.length_append, List.length_singleton] at this; omega
      | fail σ' => exact .inr (.inr ⟨σ', rfl, exF_fail_pos hm0 hl hr⟩)
    · rename_i t n hs
      cases hr : exF false A (f + 1) left s out σ with
      | done o l σ' =>
        right; left
        refine ⟨o, l, σ', rfl, ?_⟩
        rw [exF, hs] at hr
        dsimp only at hr
        split at hr
        · cases hr
        · rename_i hi
          have h1 := exF_mono.2 hi
          split at hr
          · cases hr
          · split at hr
            · cases hr
            · have := exF_mono.2 hr; rw [List.length_append, List.length_singleton] at this; omega
      | fail σ' => exact .inr (.inr ⟨σ', rfl, exF_fail_pos hm0 hl hr⟩)
end Go.Proofs.Ytcahlfafadabaaa
