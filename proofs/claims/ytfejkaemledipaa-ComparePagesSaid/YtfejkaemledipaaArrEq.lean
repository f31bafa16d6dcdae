/- '==' of two arrays of one-celled elements. -/
import Derived.Test.YtfejkaemledipaaRep
namespace Go.Proofs.Ytfejkaemledipaa
open Go.RowKit

def eqIdx (d : Nat) (e : TypeId) (xs ys : Array Value) : List Nat → Sem Bool
  | [] => pure true
  | i :: is => do
    let a ← part e xs (i * 1)
    let b ← part e ys (i * 1)
    let r ← Op.equalIn d e a b
    if (!r) = true then pure false else eqIdx d e xs ys is

theorem run_equalIn_array {P : Program} (w : World) (d n : Nat) (t e : TypeId) (xs ys : Array Value) (ht : P.underlying t = some (.array n e)) (hs : ∀ w, (sizeOf e).run P w = .ok 1 w) :
    (Op.equalIn (d + 1) t (.agg xs) (.agg ys)).run P w = (eqIdx d e xs ys (List.range' 0 n)).run P w := by
  rw [Op.equalIn]
  simp only [Sem.run_bind, run_underlying ht, Result.andThen_ok, hs]
  rw [Std.Legacy.Range.forIn_eq_forIn_range']
  have hz : ([:n] : Std.Legacy.Range).size = n := by simp [Std.Legacy.Range.size]
  rw [hz]
  show ((Sem.run P (forIn (List.range' 0 n) _ _) w).andThen _) = _
  generalize List.range' 0 n = l
  clear ht hz
  induction l generalizing w with
  | nil => simp [eqIdx]
  | cons i is ih =>
    simp only [List.forIn_cons, eqIdx, Sem.run_bind, Sem.run_ite]
    generalize (part e xs (i * 1)).run P w = r1
    cases r1 with
    | ok a w1 =>
      simp only [Result.andThen_ok]
      generalize (part e ys (i * 1)).run P w1 = r2
      cases r2 with
      | ok b w2 =>
        simp only [Result.andThen_ok]
        generalize (Op.equalIn d e a b).run P w2 = r3
        cases r3 with
        | ok r w3 =>
          cases r
          · simp only [Result.andThen_ok, Bool.not_false, if_true, Sem.run_pure]
          · simp only [Result.andThen_ok, Bool.not_true, Bool.false_eq_true, if_false, Sem.run_pure]
            exact ih w3
        | halt x w3 => simp [Result.andThen]
      | halt x w2 => simp [Result.andThen]
    | halt x w1 => simp [Result.andThen]

theorem part5_0 (w : World) (x0 x1 x2 x3 x4 : Int) : (part 3 #[.int .i64 x0, .int .i64 x1, .int .i64 x2, .int .i64 x3, .int .i64 x4] (0 * 1)).run Try.prog w = .ok (.int .i64 x0) w := by kernel_rfl
theorem part5_1 (w : World) (x0 x1 x2 x3 x4 : Int) : (part 3 #[.int .i64 x0, .int .i64 x1, .int .i64 x2, .int .i64 x3, .int .i64 x4] (1 * 1)).run Try.prog w = .ok (.int .i64 x1) w := by kernel_rfl
theorem part5_2 (w : World) (x0 x1 x2 x3 x4 : Int) : (part 3 #[.int .i64 x0, .int .i64 x1, .int .i64 x2, .int .i64 x3, .int .i64 x4] (2 * 1)).run Try.prog w = .ok (.int .i64 x2) w := by kernel_rfl
theorem part5_3 (w : World) (x0 x1 x2 x3 x4 : Int) : (part 3 #[.int .i64 x0, .int .i64 x1, .int .i64 x2, .int .i64 x3, .int .i64 x4] (3 * 1)).run Try.prog w = .ok (.int .i64 x3) w := by kernel_rfl
theorem part5_4 (w : World) (x0 x1 x2 x3 x4 : Int) : (part 3 #[.int .i64 x0, .int .i64 x1, .int .i64 x2, .int .i64 x3, .int .i64 x4] (4 * 1)).run Try.prog w = .ok (.int .i64 x4) w := by kernel_rfl
theorem eqArr5 (w : World) (d : Nat) (a0 a1 a2 a3 a4 b0 b1 b2 b3 b4 : Int) : (Op.equalIn (d + 2) 57 (.agg #[.int .i64 a0, .int .i64 a1, .int .i64 a2, .int .i64 a3, .int .i64 a4]) (.agg #[.int .i64 b0, .int .i64 b1, .int .i64 b2, .int .i64 b3, .int .i64 b4])).run Try.prog w = .ok (decide (a0 = b0 ∧ a1 = b1 ∧ a2 = b2 ∧ a3 = b3 ∧ a4 = b4)) w := by
  rw [run_equalIn_array w (d + 1) 5 57 3 _ _ Try.underlying57 (fun w => by kernel_rfl)]
  simp only [show List.range' 0 5 = [0, 1, 2, 3, 4] from rfl, eqIdx, Sem.run_bind, Sem.run_ite, part5_0, part5_1, part5_2, part5_3, part5_4, Result.andThen_ok, run_equalIn_int _ _ _ _ _ _ _ Try.underlying3, Sem.run_pure]
  by_cases h0 : a0 = b0 <;> by_cases h1 : a1 = b1 <;> by_cases h2 : a2 = b2 <;> by_cases h3 : a3 = b3 <;> by_cases h4 : a4 = b4 <;> simp [h0, h1, h2, h3, h4]
end Go.Proofs.Ytfejkaemledipaa
