/- Texts and lists of bytes. -/
import Derived.Test.YtcahlfafadabaaaName04
namespace Go.Proofs.Ytcahlfafadabaaa
def ba (l : Bs) : ByteArray := ⟨l.toArray⟩
theorem bl_ba (l : Bs) : bl (ba l) = l := by simp [bl, ba]
theorem ba_bl (s : ByteArray) : ba (bl s) = s := by obtain ⟨⟨s⟩⟩ := s; rfl
theorem ba_of {s : ByteArray} {l : Bs} (h : bl s = l) : s = ba l := by rw [← h, ba_bl]
theorem take_snoc {α : Type} {xs : List α} {k : Nat} (h : k < xs.length) : xs.take (k + 1) = xs.take k ++ [xs[k]] := List.take_succ_eq_append_getElem h
end Go.Proofs.Ytcahlfafadabaaa
