/- The reference's expand: what the walk needs. -/
import Derived.Test.YtcahlfafadabaaaRExpA04
namespace Go.Proofs.Ytcahlfafadabaaa
open Go.RowKit

theorem TelInv.setp {base : Nat} {W0 : World} {A : List ByteArray} {g p : Nat} {W : World} {σ : List AskR} {T : List Nat} (h : TelInv 38 base W0 A g W σ T) (hp : p ∉ T) (hb : base ≤ p) (v : Value) : TelInv 38 base W0 A g (W.setCell ⟨p, 0, none⟩ v) σ T :=
  h.stab fun b hk => set_far _ _ _ _ (by
    show b ≠ p
    rcases hk with hk | hk
    · omega
    · exact fun e => hp (e ▸ hk))
theorem keep_setp2 {p : Nat} {T : List Nat} {W W' : World} (h : Keep (p :: T) W W') (v : Value) : Keep (p :: T) W (W'.setCell ⟨p, 0, none⟩ v) := h.setCell ⟨p, 0, none⟩ List.mem_cons_self v
theorem fresh_blk (w : World) (o : Obj) : (w.alloc o).heap[w.heap.size]? = some o := by
  show (w.heap.push _)[w.heap.size]? = _
  rw [Array.getElem?_push, if_pos rfl]
theorem TelInv.lt {t : TypeId} {base : Nat} {W0 : World} {A : List ByteArray} {g : Nat} {W : World} {σ : List AskR} {T : List Nat} (ht : t ≠ 5) (h : TelInv t base W0 A g W σ T) : ∀ b ∈ T, b < W.heap.size := fun b hb => (h.blocks ht b hb).2.1
theorem RX.setAlloc {base : Nat} {W0 : World} {A : List ByteArray} {g : Nat} {cp : Bool} {p : Nat} {W : World} {T : List Nat} {r : Res} {gf : Nat} {s out : Bs} {left : Nat} {σ : List AskR} {T' : List Nat} {wr : World} (h : RX base W0 A g cp p W T r gf s out left σ T' wr) (v : Int) (o : Obj) :
    Keep (p :: T') wr ((wr.setCell ⟨p, 0, none⟩ (.int .i64 v)).alloc o) ∧ Cnt p v ((wr.setCell ⟨p, 0, none⟩ (.int .i64 v)).alloc o) ∧ TelInv 38 base W0 A g ((wr.setCell ⟨p, 0, none⟩ (.int .i64 v)).alloc o) σ T' ∧ ((wr.setCell ⟨p, 0, none⟩ (.int .i64 v)).alloc o).heap[wr.heap.size]? = some o ∧ ((wr.setCell ⟨p, 0, none⟩ (.int .i64 v)).alloc o).heap.size = wr.heap.size + 1 := by
  have hB : Below (wr.setCell ⟨p, 0, none⟩ (.int .i64 v)).heap.size (wr.setCell ⟨p, 0, none⟩ (.int .i64 v)) ((wr.setCell ⟨p, 0, none⟩ (.int .i64 v)).alloc o) := (Below.refl _ _).alloc (Nat.le_refl _) _
  have hs := set_sz wr ⟨p, 0, none⟩ (.int .i64 v)
  refine ⟨(keep_setp2 (Keep.refl _ _) _).of_below hB (by rw [hs]; exact Nat.le_refl _), h.cnt.set.of_block (hB.block p (by rw [hs]; exact h.cnt.lt)), (h.inv.setp h.pT h.base_le _).below (by decide) hB, ?_, ?_⟩
  · have := fresh_blk (wr.setCell ⟨p, 0, none⟩ (.int .i64 v)) o
    rwa [hs] at this
  · simp [hs]
theorem rwid_one {l : Bs} {e : Ending} (h : (widthP l = none ∧ e = .returned (.tuple #[.string ⟨#[]⟩, .int .i64 (-1)])) ∨ ∃ (tx : Bs) (n : Nat), widthP l = some (tx, n) ∧ e = .returned (.tuple #[.string (ba tx), .int .i64 n])) : ∃ (tw : ByteArray) (nw : Int), e = .returned (.tuple #[.string tw, .int .i64 nw]) ∧ ((widthP l = none ∧ nw = -1) ∨ ∃ (tx : Bs) (n : Nat), widthP l = some (tx, n) ∧ tw = ba tx ∧ nw = n) := by
  rcases h with ⟨h, rfl⟩ | ⟨tx, n, h, rfl⟩
  · exact ⟨_, _, rfl, .inl ⟨h, rfl⟩⟩
  · exact ⟨_, _, rfl, .inr ⟨tx, n, h, rfl, rfl⟩⟩
theorem asks34 (r : Bs) : asksP (92 :: 34 :: r) = none := by
  match r with
  | [] => rfl
  | c :: r => rw [asksP]; exact if_neg (by rintro ⟨_, h | h | h⟩ <;> cases h)
theorem ansLen_le {A : List ByteArray} (W : World) (hA : ∀ a ∈ A, a.size ≤ 100000) (q : AskR) : (ansOf A q).length ≤ 100000 := (tellerLk 0 W A 0 hA).ansLen q
end Go.Proofs.Ytcahlfafadabaaa
