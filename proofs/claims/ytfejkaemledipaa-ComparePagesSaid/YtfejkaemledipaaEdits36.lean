/- Edits: how they lie, and those of the least cost. -/
import Derived.Test.YtfejkaemledipaaTabled36
namespace Go.Proofs.Ytfejkaemledipaa
open Go.RowKit

structure Edit where
  kind : Int
  a : Int
  b : Int
  deriving DecidableEq

def rEdit : Rp Edit := Rp.iso (Rp.pair (Rp.int .i64) (Rp.pair (Rp.int .i64) (Rp.int .i64))) (fun e => (e.kind, e.a, e.b))
theorem rEdit_open {w : World} {L : List Nat} {e : Edit} {cs : List Value} (h : rEdit.K w L e cs) : cs = [.int .i64 e.kind, .int .i64 e.a, .int .i64 e.b] := by
  obtain ⟨_, _, rfl, rfl, _, _, rfl, rfl, rfl⟩ := h
  rfl
theorem rEdit_mk (w : World) (L : List Nat) (e : Edit) : rEdit.K w L e [.int .i64 e.kind, .int .i64 e.a, .int .i64 e.b] :=
  ⟨_, _, rfl, rfl, _, _, rfl, rfl, rfl⟩
theorem infoEdit : (Try.prog.info? 42).map (fun i => (i.zero, i.size, i.bytes)) = some (some (.agg #[.int .i64 0, .int .i64 0, .int .i64 0]), 3, 24) := by kernel_rfl

/-- The edits from places i, k on, as the program chooses them. -/
def edits (N : Int) (i k : Nat) : List Page → List Page → List Edit
  | [], [] => []
  | [], _ :: ys => ⟨2, 0, k⟩ :: edits N i (k + 1) [] ys
  | _ :: xs, [] => ⟨1, i, 0⟩ :: edits N (i + 1) k xs []
  | x :: xs, y :: ys =>
    if x.number = y.number ∧ x = y ∧ cst N (x :: xs) (y :: ys) = cst N xs ys then ⟨0, i, k⟩ :: edits N (i + 1) (k + 1) xs ys
    else if x.number = y.number ∧ x ≠ y ∧ cst N (x :: xs) (y :: ys) = 1 + cst N xs ys then ⟨3, i, k⟩ :: edits N (i + 1) (k + 1) xs ys
    else if cst N (x :: xs) (y :: ys) = 1 + cst N xs (y :: ys) then ⟨1, i, 0⟩ :: edits N (i + 1) k xs (y :: ys)
    else ⟨2, 0, k⟩ :: edits N i (k + 1) (x :: xs) ys
termination_by xs ys => xs.length + ys.length
end Go.Proofs.Ytfejkaemledipaa
