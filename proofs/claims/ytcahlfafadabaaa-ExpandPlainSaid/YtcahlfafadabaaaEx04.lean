/- Chapter 4, plain: what a text is expanded to, step by step. No program in sight. -/
import Derived.RowKit
namespace Go.Proofs.Ytcahlfafadabaaa

abbrev Bs := List UInt8
structure AskR where
  kind : UInt8
  name : Bs
  step : Int
  deriving DecidableEq

def isNm (c : UInt8) : Bool := decide (33 ≤ c.toNat) && decide (c.toNat ≤ 126)
def nmTo (r : Bs) : Bs := r.takeWhile (· != 93)
def nameP : Bs → Option (Bs × Nat)
  | [] => none
  | c :: r =>
    if c = 40 then
      match r with
      | a :: b :: _ => if isNm a ∧ isNm b then some ([a, b], 3) else none
      | _ => none
    else if c = 91 then (if (nmTo r).length < r.length ∧ 1 ≤ (nmTo r).length ∧ (nmTo r).length ≤ 20 ∧ (nmTo r).all isNm then some (nmTo r, (nmTo r).length + 2) else none)
    else if c = 43 ∨ c = 45 ∨ isNm c = false then none else some ([c], 1)
def stepOf (k c : UInt8) : Int := if k = 110 then (if c = 43 then 1 else if c = 45 then -1 else 0) else 0
def szOf (k c : UInt8) : Nat := if k = 110 ∧ (c = 43 ∨ c = 45) then 3 else 2
def asksP : Bs → Option (AskR × Nat)
  | a :: k :: c :: r =>
    if a = 92 ∧ (k = 110 ∨ k = 42 ∨ k = 36) then
      match nameP ((a :: k :: c :: r).drop (szOf k c)) with
      | some (nm, n) => some (⟨k, nm, stepOf k c⟩, szOf k c + n)
      | none => none
    else none
  | _ => none
def widTo (q : UInt8) (r : Bs) : Bs := r.takeWhile (· != q)
def widthP : Bs → Option (Bs × Nat)
  | a :: b :: q :: r => if a = 92 ∧ b = 119 ∧ q ≠ 92 ∧ (widTo q r).length < r.length then some (widTo q r, (widTo q r).length + 4) else none
  | _ => none

inductive StepR where
  | fin
  | adv (add : Bs) (n : Nat)
  | ask (q : AskR) (n : Nat)
  | wid (t : Bs) (n : Nat)

/-- What stands at the front of a text. -/
def stepP (cp : Bool) : Bs → StepR
  | [] => .fin
  | c :: r =>
    if c ≠ 92 then .adv [c] 1
    else match r with
      | [] => .adv [92] 1
      | d :: r' =>
        if d = 34 then .fin
        else match asksP (c :: d :: r') with
          | some (q, n) => .ask q n
          | none => match (if cp then none else widthP (c :: d :: r')) with
            | some (t, n) => .wid t n
            | none => if cp = true ∧ (d = 92 ∨ d = 46) then .adv [d] 2
              else if d = 110 ∨ d = 42 ∨ d = 36 ∨ (d = 119 ∧ cp = false) then .adv [92] 1
              else .adv [92, d] 2

inductive Res where
  | done (out : Bs) (left : Nat) (σ : List AskR)
  | fail (σ : List AskR)

def nxOut (A : AskR → Bs) (q : AskR) (out : Bs) : Bs := if q.kind = 110 then out ++ A q else out
def nxS (A : AskR → Bs) (q : AskR) (s : Bs) : Bs := if q.kind = 110 then s else A q ++ s
def exF (cp : Bool) (A : AskR → Bs) : Nat → Nat → Bs → Bs → List AskR → Res
  | 0, _, _, _, σ => .fail σ
  | f + 1, left, s, out, σ =>
    match stepP cp s with
    | .fin => .done out left σ
    | .adv a n => exF cp A f left (s.drop n) (out ++ a) σ
    | .ask q n =>
      if left = 0 then .fail σ
      else if 8000 < (nxOut A q out).length + (nxS A q (s.drop n)).length then .fail (σ ++ [q])
      else exF cp A f (left - 1) (nxS A q (s.drop n)) (nxOut A q out) (σ ++ [q])
    | .wid t n =>
      match exF cp A f left t [] σ with
      | .fail σ' => .fail σ'
      | .done inner l σ' =>
        if l = 0 then .fail σ'
        else if 8000 < (out ++ A ⟨119, inner, 0⟩).length + (s.drop n).length then .fail (σ' ++ [⟨119, inner, 0⟩])
        else exF cp A f (l - 1) (s.drop n) (out ++ A ⟨119, inner, 0⟩) (σ' ++ [⟨119, inner, 0⟩])

/-- Enough rounds. -/
def mu (left : Nat) (s : Bs) : Nat := left * 8001 + s.length

theorem takeWhile_len {α : Type} (p : α → Bool) (l : List α) : (l.takeWhile p).length ≤ l.length := by
  induction l with
  | nil => simp
  | cons a l ih =>
    rw [List.takeWhile_cons]
    split
    · simp; exact ih
    · simp
theorem nameP_le {s nm : Bs} {n : Nat} (h : nameP s = some (nm, n)) : 1 ≤ n ∧ n ≤ s.length ∧ nm.length ≤ 20 ∧ 1 ≤ nm.length := by
  match s, h with
  | c :: r, h =>
    rw [nameP.eq_def] at h
    dsimp only at h
    split at h
    · split at h
      · split at h
        · cases h; simp
        · cases h
      · cases h
    · split at h
      · split at h
        · rename_i h'
          cases h
          have := h'.1
          simp only [List.length_cons]
          omega
        · cases h
      · split at h
        · cases h
        · cases h; simp
theorem asksP_le {s : Bs} {q : AskR} {n : Nat} (h : asksP s = some (q, n)) : 3 ≤ n ∧ n ≤ s.length ∧ q.name.length ≤ 20 ∧ (q.kind = 110 ∨ q.kind = 42 ∨ q.kind = 36) ∧ -1 ≤ q.step ∧ q.step ≤ 1 := by
  match s, h with
  | a :: k :: c :: r, h =>
    rw [asksP] at h
    split at h
    · rename_i hk
      cases hn : nameP ((a :: k :: c :: r).drop (szOf k c)) with
      | none => rw [hn] at h; cases h
      | some x =>
        obtain ⟨nm, m⟩ := x
        rw [hn] at h
        cases h
        have := nameP_le hn
        have hz : 2 ≤ szOf k c := by unfold szOf; split <;> omega
        rw [List.length_drop] at this
        refine ⟨by omega, by omega, this.2.2.1, hk.2, ?_, ?_⟩
        · show -1 ≤ stepOf k c; unfold stepOf; repeat' split <;> omega
        · show stepOf k c ≤ 1; unfold stepOf; repeat' split <;> omega
    · cases h
theorem widthP_le {s t : Bs} {n : Nat} (h : widthP s = some (t, n)) : 4 ≤ n ∧ n ≤ s.length ∧ t.length + 4 = n := by
  match s, h with
  | a :: b :: q :: r, h =>
    rw [widthP] at h
    split at h
    · rename_i h'
      cases h
      have := h'.2.2.2
      exact ⟨by omega, by simp only [List.length_cons]; omega, rfl⟩
    · cases h
theorem stepP_adv {cp : Bool} {s a : Bs} {n : Nat} (h : stepP cp s = .adv a n) : 1 ≤ n ∧ n ≤ s.length ∧ a.length ≤ n := by
  match s, h with
  | c :: r, h =>
    rw [stepP.eq_def] at h
    dsimp only at h
    split at h
    · cases h; simp
    · split at h
      · cases h; simp
      · split at h
        · cases h
        · split at h
          · cases h
          · split at h
            · cases h
            · split at h
              · cases h; simp
              · split at h <;> cases h <;> simp
theorem stepP_ask {cp : Bool} {s : Bs} {q : AskR} {n : Nat} (h : stepP cp s = .ask q n) : asksP s = some (q, n) := by
  match s, h with
  | c :: r, h =>
    rw [stepP.eq_def] at h
    dsimp only at h
    split at h
    · cases h
    · split at h
      · cases h
      · split at h
        · cases h
        · split at h
          · rename_i h'; cases h; exact h'
          · split at h
            · cases h
            · split at h
              · cases h
              · split at h <;> cases h
theorem stepP_wid {cp : Bool} {s t : Bs} {n : Nat} (h : stepP cp s = .wid t n) : cp = false ∧ widthP s = some (t, n) ∧ asksP s = none := by
  match s, h with
  | c :: r, h =>
    rw [stepP.eq_def] at h
    dsimp only at h
    split at h
    · cases h
    · split at h
      · cases h
      · split at h
        · cases h
        · split at h
          · cases h
          · rename_i h0
            split at h
            · rename_i h'
              cases h
              split at h'
              · cases h'
              · rename_i hc
                exact ⟨by simpa using hc, h', h0⟩
            · split at h
              · cases h
              · split at h <;> cases h
theorem exF_left {cp : Bool} {A : AskR → Bs} : ∀ {f left : Nat} {s out : Bs} {σ : List AskR} {o : Bs} {l : Nat} {σ' : List AskR}, exF cp A f left s out σ = .done o l σ' → l ≤ left := by
  intro f
  induction f with
  | zero => intro left s out σ o l σ' h; cases h
  | succ f ih =>
    intro left s out σ o l σ' h
    rw [exF] at h
    split at h
    · cases h; exact Nat.le_refl _
    · exact ih h
    · split at h
      · cases h
      · split at h
        · cases h
        · have := ih h; omega
    · split at h
      · cases h
      · rename_i hi
        split at h
        · cases h
        · split at h
          · cases h
          · have := ih h; have := ih hi; omega
/-- How many were asked. -/
theorem exF_asks {cp : Bool} {A : AskR → Bs} : ∀ {f left : Nat} {s out : Bs} {σ : List AskR},
    (∀ {o l σ'}, exF cp A f left s out σ = .done o l σ' → σ'.length + l = σ.length + left) ∧ (∀ {σ'}, exF cp A f left s out σ = .fail σ' → σ'.length ≤ σ.length + left) := by
  intro f
  induction f with
  | zero => intro left s out σ; exact ⟨(fun {o l σ'} (h : Res.fail σ = Res.done o l σ') => by cases h), (fun {σ'} (h : Res.fail σ = Res.fail σ') => by cases h; omega)⟩
  | succ f ih =>
    intro left s out σ
    constructor
    · intro o l σ' h
      rw [exF] at h
      split at h
      · cases h; rfl
      · exact ih.1 h
      · split at h
        · cases h
        · split at h
          · cases h
          · have := ih.1 h; rw [List.length_append, List.length_singleton] at this; omega
      · split at h
        · cases h
        · rename_i hi
          split at h
          · cases h
          · split at h
            · cases h
            · have := ih.1 h; have := ih.1 hi; rw [List.length_append, List.length_singleton] at *; omega
    · intro σ' h
      rw [exF] at h
      split at h
      · cases h
      · exact ih.2 h
      · split at h
        · cases h; omega
        · split at h
          · cases h; rw [List.length_append, List.length_singleton]; omega
          · have := ih.2 h; rw [List.length_append, List.length_singleton] at this; omega
      · split at h
        · rename_i hi; cases h; exact ih.2 hi
        · rename_i hi
          have h1 := ih.1 hi
          split at h
          · cases h; omega
          · split at h
            · cases h; rw [List.length_append, List.length_singleton]; omega
            · have := ih.2 h; rw [List.length_append, List.length_singleton] at this; omega
theorem exF_done_len {cp : Bool} {A : AskR → Bs} : ∀ {f left : Nat} {s out : Bs} {σ : List AskR} {o : Bs} {l : Nat} {σ' : List AskR}, exF cp A f left s out σ = .done o l σ' → out.length + s.length ≤ 8000 → o.length ≤ 8000 := by
  intro f
  induction f with
  | zero => intro left s out σ o l σ' h; cases h
  | succ f ih =>
    intro left s out σ o l σ' h hb
    rw [exF] at h
    split at h
    · cases h; omega
    · rename_i hs
      have := stepP_adv hs
      refine ih h ?_
      rw [List.length_append, List.length_drop]; omega
    · split at h
      · cases h
      · split at h
        · cases h
        · exact ih h (by omega)
    · split at h
      · cases h
      · split at h
        · cases h
        · split at h
          · cases h
          · exact ih h (by omega)
/-- Bytes that are no backslash are taken as they are. -/
theorem exF_plain {cp : Bool} {A : AskR → Bs} {left : Nat} {s : Bs} {σ : List AskR} : ∀ (p out : Bs) (f : Nat), (∀ c ∈ p, c ≠ 92) → exF cp A (p.length + f) left (p ++ s) out σ = exF cp A f left s (out ++ p) σ := by
  intro p
  induction p with
  | nil => intro out f _; simp
  | cons c p ih =>
    intro out f h
    rw [show (c :: p).length + f = (p.length + f) + 1 from by simp; omega, exF]
    have : stepP cp (c :: p ++ s) = .adv [c] 1 := by
      rw [List.cons_append, stepP.eq_def]; dsimp only; rw [if_pos (h c List.mem_cons_self)]
    rw [this]
    show exF cp A (p.length + f) left (p ++ s) (out ++ [c]) σ = _
    rw [ih _ _ (fun d hd => h d (List.mem_cons_of_mem _ hd)), List.append_assoc]; rfl
end Go.Proofs.Ytcahlfafadabaaa
