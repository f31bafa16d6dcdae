/- The reference's expand: what holds at each round. -/
import Derived.Test.YtcahlfafadabaaaRWid04
import Derived.Test.YtcahlfafadabaaaTel04
import Derived.Test.YtcahlfafadabaaaExpand04b
namespace Go.Proofs.Ytcahlfafadabaaa
open Go.RowKit

def Cnt (p : Nat) (n : Int) (W : World) : Prop := W.heap[p]? = some (.cells #[.int .i64 n] 3 (0, 0))
theorem Cnt.lt {p : Nat} {n : Int} {W : World} (h : Cnt p n W) : p < W.heap.size := (Array.getElem?_eq_some_iff.1 h).1
theorem Cnt.of_block {p : Nat} {n : Int} {W W' : World} (h : Cnt p n W) (e : W'.heap[p]? = W.heap[p]?) : Cnt p n W' := e.trans h
theorem Cnt.set {p : Nat} {n m : Int} {W : World} (h : Cnt p n W) : Cnt p m (W.setCell ⟨p, 0, none⟩ (.int .i64 m)) := by
  unfold Cnt at *
  simp only [World.setCell]
  rw [Array.getElem?_modify, if_pos rfl, h]
  rfl
/-- What holds of a result. -/
def RxPost (base : Nat) (W0 : World) (A : List ByteArray) (g : Nat) (p : Nat) (W : World) (T : List Nat) (f : Nat) (r : Res) (e : Ending) (W' : World) : Prop :=
  Keep (p :: T) W W' ∧ ∃ T' : List Nat, p ∉ T' ∧ (∀ b ∈ T', b ∈ T ∨ W.heap.size ≤ b) ∧
    ((∃ out l σ', r = .done out l σ' ∧ e = .returned (.tuple #[.string (ba out), .bool true]) ∧ Cnt p l W' ∧ TelInv 38 base W0 A g W' σ' T') ∨
     (∃ σ' v, r = .fail σ' ∧ e = .returned (.tuple #[.string ⟨#[]⟩, .bool false]) ∧ Cnt p v W' ∧ -(f : Int) ≤ v ∧ v ≤ 500 ∧ TelInv 38 base W0 A g W' σ' T'))
/-- What holds at each round's head: gf more steps lead to r. -/
structure RX (base : Nat) (W0 : World) (A : List ByteArray) (g : Nat) (cp : Bool) (p : Nat) (W : World) (T : List Nat) (r : Res) (gf : Nat) (s : Bs) (out : Bs) (left : Nat) (σ : List AskR) (T' : List Nat) (wr : World) : Prop where
  fuel : mu left s < gf
  left5 : left ≤ 500
  run : exF cp (ansOf A) gf left s out σ = r
  cnt : Cnt p left wr
  inv : TelInv 38 base W0 A g wr σ T'
  pT : p ∉ T'
  sub : ∀ b ∈ T', b ∈ T ∨ W.heap.size ≤ b
  keep : Keep (p :: T) W wr
  asks : σ.length + left ≤ 1000
  base_le : base ≤ p
  p_lt : p < W.heap.size
def RRel (base : Nat) (W0 : World) (A : List ByteArray) (g : Nat) (cp : Bool) (p : Nat) (W : World) (T : List Nat) (r : Res) (f : Nat) (gf : Nat) (v1 v10 : Value) (wr : World) : Prop :=
  ∃ s ob left σ T', v1 = .string s ∧ v10 = .string ob ∧ gf ≤ f ∧ ob.size + s.size ≤ 8000 ∧ RX base W0 A g cp p W T r gf (bl s) (bl ob) left σ T' wr
theorem RX.adv {base : Nat} {W0 : World} {A : List ByteArray} {g : Nat} {cp : Bool} {p : Nat} {W : World} {T : List Nat} {r : Res} {gf : Nat} {s out : Bs} {left : Nat} {σ : List AskR} {T' : List Nat} {wr : World} (h : RX base W0 A g cp p W T r (gf + 1) s out left σ T' wr) {a s2 o2 : Bs} {n : Nat}
    (hs : stepP cp s = .adv a n) (h1 : s2 = s.drop n) (h2 : o2 = out ++ a) : RX base W0 A g cp p W T r gf s2 o2 left σ T' wr :=
  { h with
    fuel := by
      have := h.fuel
      have := stepP_adv hs
      rw [h1]; unfold mu at *; rw [List.length_drop]; omega
    run := by
      have := h.run
      rw [exF, hs] at this
      rw [h1, h2]; exact this }
theorem TelInv.below {t : TypeId} {base : Nat} {W0 : World} {A : List ByteArray} {g : Nat} {W W' : World} {σ : List AskR} {T : List Nat} (ht : t ≠ 5) (h : TelInv t base W0 A g W σ T) (hb : Below W.heap.size W W') : TelInv t base W0 A g W' σ T :=
  h.stab fun b hk => hb.block b (by
    rcases hk with hk | hk
    · have : g < W.heap.size := by obtain ⟨_, _, _, h⟩ := h; exact h.lt
      have : base ≤ g := by obtain ⟨_, _, _, h⟩ := h; exact h.leg
      omega
    · exact (h.blocks ht b hk).2.1)
theorem RX.below {base : Nat} {W0 : World} {A : List ByteArray} {g : Nat} {cp : Bool} {p : Nat} {W : World} {T : List Nat} {r : Res} {gf : Nat} {s out : Bs} {left : Nat} {σ : List AskR} {T' : List Nat} {wr w1 : World} (h : RX base W0 A g cp p W T r gf s out left σ T' wr) (hb : Below wr.heap.size wr w1) : RX base W0 A g cp p W T r gf s out left σ T' w1 :=
  { h with
    cnt := h.cnt.of_block (hb.block p h.cnt.lt)
    inv := h.inv.below (by decide) hb
    keep := h.keep.of_below hb h.keep.size }
theorem RX.finish {base : Nat} {W0 : World} {A : List ByteArray} {g : Nat} {cp : Bool} {p : Nat} {W : World} {T : List Nat} {r : Res} {gf : Nat} {s out : Bs} {left : Nat} {σ : List AskR} {T' : List Nat} {wr : World} (h : RX base W0 A g cp p W T r (gf + 1) s out left σ T' wr) (hs : stepP cp s = .fin) {f : Nat} {ob : ByteArray} (ho : bl ob = out) :
    RxPost base W0 A g p W T f r (.returned (.tuple #[.string ob, .bool true])) wr :=
  ⟨h.keep, T', h.pT, h.sub, .inl ⟨out, left, σ, by rw [← h.run, exF, hs], by rw [ba_of ho], h.cnt, h.inv⟩⟩
/-- A question: the count is one less, the answer is there. -/
theorem RX.asked {base : Nat} {W0 : World} {A : List ByteArray} {g : Nat} {cp : Bool} {p : Nat} {W : World} {T : List Nat} {r r' : Res} {gf gf' : Nat} {s s' out out' : Bs} {left left' : Nat} {σ σ' : List AskR} {T' T2 : List Nat} {wr w1 : World} (h : RX base W0 A g cp p W T r gf s out left σ T' wr)
    (hK : Keep (p :: T') wr w1) (hC : Cnt p left' w1) (hI : TelInv 38 base W0 A g w1 σ' T2) (hp : p ∉ T2) (hT : ∀ b ∈ T2, b ∈ T' ∨ wr.heap.size ≤ b) (hl : left' ≤ 500) (ha : σ'.length + left' ≤ 1000)
    (hf : mu left' s' < gf') (hrun : exF cp (ansOf A) gf' left' s' out' σ' = r') : RX base W0 A g cp p W T r' gf' s' out' left' σ' T2 w1 where
  fuel := hf
  left5 := hl
  run := hrun
  cnt := hC
  inv := hI
  pT := hp
  sub := fun b hb => (hT b hb).elim (h.sub b) fun h2 => .inr (Nat.le_trans h.keep.size h2)
  keep := h.keep.trans hK fun b hb => by
    rcases List.mem_cons.1 hb with rfl | hb
    · exact .inl List.mem_cons_self
    · exact (h.sub b hb).imp (List.mem_cons_of_mem _) id
  asks := ha
  base_le := h.base_le
  p_lt := h.p_lt
/-- A failure, wherever it comes about. -/
theorem RX.failed {base : Nat} {W0 : World} {A : List ByteArray} {g : Nat} {cp : Bool} {p : Nat} {W : World} {T : List Nat} {r : Res} {gf : Nat} {s out : Bs} {left : Nat} {σ σ' : List AskR} {T' T2 : List Nat} {wr w1 : World} (h : RX base W0 A g cp p W T r gf s out left σ T' wr)
    (hK : Keep (p :: T') wr w1) {v : Int} (hC : Cnt p v w1) (hI : TelInv 38 base W0 A g w1 σ' T2) (hp : p ∉ T2) (hT : ∀ b ∈ T2, b ∈ T' ∨ wr.heap.size ≤ b) {f : Nat} (h1 : -(f : Int) ≤ v) (h2 : v ≤ 500) {r' : Res} (hr : r' = .fail σ') :
    RxPost base W0 A g p W T f r' (.returned (.tuple #[.string ⟨#[]⟩, .bool false])) w1 :=
  ⟨h.keep.trans hK fun b hb => by
    rcases List.mem_cons.1 hb with rfl | hb
    · exact .inl List.mem_cons_self
    · exact (h.sub b hb).imp (List.mem_cons_of_mem _) id, T2, hp, fun b hb => (hT b hb).elim (h.sub b) fun h2 => .inr (Nat.le_trans h.keep.size h2), .inr ⟨σ', v, hr, rfl, hC, h1, h2, hI⟩⟩
end Go.Proofs.Ytcahlfafadabaaa
