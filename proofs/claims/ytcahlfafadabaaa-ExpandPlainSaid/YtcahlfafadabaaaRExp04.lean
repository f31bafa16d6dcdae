/- The reference's expand: what it tells. -/
import Derived.Test.YtcahlfafadabaaaRExpT04
import Derived.Test.YtcahlfafadabaaaRExpF04
namespace Go.Proofs.Ytcahlfafadabaaa
open Go.RowKit

theorem rexpand_spec (base : Nat) (W0 : World) (A : List ByteArray) (g : Nat) (hA : ∀ a ∈ A, a.size ≤ 100000) (cp : Bool) : ∀ (f left : Nat) (s : ByteArray) (W : World) (σ : List AskR) (T : List Nat) (p : Nat), f ≤ 5000000 → mu left (bl s) < f → left ≤ 500 → s.size ≤ 8000 → Cnt p left W → TelInv 38 base W0 A g W σ T → p ∉ T → base ≤ p → σ.length + left ≤ 1000 →
    Calls Try.prog 24 #[.pointer (some ⟨g, 0, none⟩), .string s, .bool cp, .pointer (some ⟨p, 0, none⟩)] W (RxPost base W0 A g p W T f (exF cp (ansOf A) f left (bl s) [] σ)) := by
  cases cp with
  | true => exact rexpand_true base W0 A g hA
  | false => exact rexpand_false base W0 A g hA
end Go.Proofs.Ytcahlfafadabaaa
