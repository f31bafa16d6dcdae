/- (*reader).expand: what it gives is the plain function's. -/
import Derived.Test.YtcahlfafadabaaaLook04
namespace Go.Proofs.Ytcahlfafadabaaa
open Go.RowKit

theorem IsB.keep {B b : Nat} {bs : List Value} {W W' : World} (h : IsB B b bs W) (hk : ∀ k, k < W.heap.size → (k = b ∨ ∃ c fz, W.heap[k]? = some (.cells c 5 fz)) → W'.heap[k]? = W.heap[k]?) : IsB B b bs W' := by
  have key : ∀ p, Lib.BuilderAtF 66 5 B b p bs W → Lib.BuilderAtF 66 5 B b p bs W' := by
    rintro p ⟨hB, v, hb, hown, hne⟩
    refine ⟨hB, v, ?_, ⟨hown.1, ?_⟩, hne⟩
    · rw [hk b (Array.getElem?_eq_some_iff.1 hb).1 (.inl rfl)]; exact hb
    · rcases hown.2 with h | ⟨g, cap, cur, fz, rfl, h1, h2, h3⟩
      · exact .inl h
      · exact .inr ⟨g, cap, cur, fz, rfl, h1, by rw [hk g (Array.getElem?_eq_some_iff.1 h2).1 (.inr ⟨_, _, h2⟩)]; exact h2, h3⟩
  exact h.imp (key _) (key _)
theorem IsB.below {B b : Nat} {bs : List Value} {W W' : World} (h : IsB B b bs W) (hb : Below W.heap.size W W') : IsB B b bs W' := h.keep fun k hk _ => hb.block k hk
theorem IsB.lt {B b : Nat} {bs : List Value} {W : World} (h : IsB B b bs W) : b < W.heap.size := h.elim (·.lt) (·.lt)
theorem IsB.keepT {base B b br : Nat} {bs : List Value} {W W' : World} {L : Lk base} {σ : List AskR} {T : List Nat} {cp : Bool} {n : Nat} (h : IsB B b bs W) (hI : L.Inv W σ T) (hR : RdAt L br cp n W) (hb : b ∉ T) (hbr : b ≠ br) (hK : Keep (br :: T) W W') : IsB B b bs W' :=
  h.keep fun k hk h' => hK.block k hk fun hm => by
    rcases List.mem_cons.1 hm with hm | hm
    · subst hm
      rcases h' with h' | ⟨c, fz, h'⟩
      · exact hbr h'.symm
      · unfold RdAt at hR
        rw [hR] at h'
        cases h'
    · rcases h' with h' | ⟨c, fz, h'⟩
      · exact hb (h' ▸ hm)
      · exact (L.blocks hI k hm).2.2 c fz h'
theorem inv_write {base : Nat} {L : Lk base} {W W' : World} {σ : List AskR} {T : List Nat} {Bc : Nat} (hI : L.Inv W σ T) (hb : Below Bc W W') (hk : OK8 Bc W W') (hB : Bc ∉ T) (hbase : base ≤ Bc) : L.Inv W' σ T :=
  L.stab hI hb.size fun b h => by
    rcases Nat.lt_or_ge b Bc with hlt | hge
    · exact hb.block b hlt
    · rcases h with h | h
      · omega
      · obtain ⟨_, h2, h3⟩ := L.blocks hI b h
        have := hk b _ (Array.getElem?_eq_getElem h2) (fun e => hB (by cases e; exact h)) (fun c fz e => h3 c fz (by rw [Array.getElem?_eq_getElem h2, e]))
        rw [this, Array.getElem?_eq_getElem h2]
theorem inv_below {base : Nat} {L : Lk base} {W W' : World} {σ : List AskR} {T : List Nat} (hI : L.Inv W σ T) (hb : Below W.heap.size W W') (hbase : base ≤ W.heap.size) : L.Inv W' σ T :=
  L.stab hI hb.size fun b h => hb.block b (h.elim (fun h => by omega) fun h => (L.blocks hI b h).2.1)
theorem RdAt.of_block {base : Nat} {L : Lk base} {br : Nat} {cp : Bool} {n : Nat} {W W' : World} (h : RdAt L br cp n W) (e : W'.heap[br]? = W.heap[br]?) : RdAt L br cp n W' := by unfold RdAt at *; rw [e]; exact h
theorem RdAt.lt {base : Nat} {L : Lk base} {br : Nat} {cp : Bool} {n : Nat} {W : World} (h : RdAt L br cp n W) : br < W.heap.size := (Array.getElem?_eq_some_iff.1 h).1
/-- A builder that was just made. -/
theorem IsB.fresh (W : World) (t : TypeId) (ht : t = 66) : IsB W.heap.size W.heap.size [] (W.alloc (.cells #[.pointer none, .slice none 0 0] t)) := by
  subst ht
  refine .inl ⟨Nat.le_refl _, .slice none 0 0, ?_, World.ownsRowF_nil _ _ _ _, by simp [Value.ownBlock]⟩
  show (W.heap.push _)[W.heap.size]? = _
  rw [Array.getElem?_push, if_pos rfl]

/-- What holds of a result. -/
def ExPost {base : Nat} (L : Lk base) (cp : Bool) (br : Nat) (W : World) (T : List Nat) (r : Res) (e : Ending) (W' : World) : Prop :=
  Keep (br :: T) W W' ∧ ∃ T' : List Nat, br ∉ T' ∧ (∀ b ∈ T', b ∈ T ∨ W.heap.size ≤ b) ∧
    ((∃ out l σ' t, r = .done out l σ' ∧ bl t = out ∧ e = .returned (.string t) ∧ RdAt L br cp (500 - l) W' ∧ L.Inv W' σ' T') ∨
     (∃ σ', r = .fail σ' ∧ e = .panicked [{ v := limitV, recovered := false }] ∧ L.Inv W' σ' T'))
/-- What holds at each round's head: gf more steps lead to r. -/
structure ExAt {base : Nat} (L : Lk base) (cp : Bool) (br : Nat) (W : World) (T : List Nat) (r : Res) (gf : Nat) (s : ByteArray) (out : Bs) (left : Nat) (σ : List AskR) (T' : List Nat) (wr : World) : Prop where
  fuel : mu left (bl s) < gf
  left5 : left ≤ 500
  run : exF cp L.ans gf left (bl s) out σ = r
  bld : IsB W.heap.size W.heap.size (Lib.byteCells out) wr
  rd : RdAt L br cp (500 - left) wr
  inv : L.Inv wr σ T'
  brT : br ∉ T'
  bT : W.heap.size ∉ T'
  sub : ∀ b ∈ T', b ∈ T ∨ W.heap.size ≤ b
  keep : Keep (br :: T) W wr
  asks : σ.length + left ≤ 1000
  base_le : base ≤ br
  br_lt : br < W.heap.size
def ExRel {base : Nat} (L : Lk base) (cp : Bool) (br : Nat) (W : World) (T : List Nat) (r : Res) (f : Nat) (gf : Nat) (v : Value) (wr : World) : Prop :=
  ∃ s out left σ T', v = .string s ∧ gf ≤ f ∧ out.length + (bl s).length ≤ 8000 ∧ ExAt L cp br W T r gf s out left σ T' wr
/-- Behind a write of the builder's. -/
theorem ExAt.wrote {base : Nat} {L : Lk base} {cp : Bool} {br : Nat} {W : World} {T : List Nat} {r r' : Res} {gf gf' : Nat} {s s' : ByteArray} {out out' : Bs} {left : Nat} {σ : List AskR} {T' : List Nat} {wr w1 : World} (h : ExAt L cp br W T r gf s out left σ T' wr)
    (hB : BAt W.heap.size W.heap.size (Lib.byteCells out') w1) (hb : Below W.heap.size wr w1) (hk : OK8 W.heap.size wr w1) (hf : mu left (bl s') < gf') (hrun : exF cp L.ans gf' left (bl s') out' σ = r') :
    ExAt L cp br W T r' gf' s' out' left σ T' w1 where
  fuel := hf
  left5 := h.left5
  run := hrun
  bld := .inr hB
  rd := h.rd.of_block (hb.block br h.br_lt)
  inv := inv_write h.inv hb hk h.bT (by have := h.base_le; have := h.br_lt; omega)
  brT := h.brT
  bT := h.bT
  sub := h.sub
  keep := h.keep.of_below hb (Nat.le_refl _)
  asks := h.asks
  base_le := h.base_le
  br_lt := h.br_lt
/-- Behind a call that makes memory alone. -/
theorem ExAt.below {base : Nat} {L : Lk base} {cp : Bool} {br : Nat} {W : World} {T : List Nat} {r : Res} {gf : Nat} {s : ByteArray} {out : Bs} {left : Nat} {σ : List AskR} {T' : List Nat} {wr w1 : World} (h : ExAt L cp br W T r gf s out left σ T' wr)
    (hb : Below wr.heap.size wr w1) : ExAt L cp br W T r gf s out left σ T' w1 where
  fuel := h.fuel
  left5 := h.left5
  run := h.run
  bld := h.bld.below hb
  rd := h.rd.of_block (hb.block br h.rd.lt)
  inv := inv_below h.inv hb (by have := h.base_le; have := h.rd.lt; omega)
  brT := h.brT
  bT := h.bT
  sub := h.sub
  keep := h.keep.of_below hb h.keep.size
  asks := h.asks
  base_le := h.base_le
  br_lt := h.br_lt
/-- Behind an ask (or a nested expansion): who is asked may have written. -/
theorem ExAt.asked {base : Nat} {L : Lk base} {cp : Bool} {br : Nat} {W : World} {T : List Nat} {r r' : Res} {gf gf' : Nat} {s s' : ByteArray} {out : Bs} {left left' : Nat} {σ σ' : List AskR} {T' T2 : List Nat} {wr w1 : World} (h : ExAt L cp br W T r gf s out left σ T' wr)
    (hK : Keep (br :: T') wr w1) (hR : RdAt L br cp (500 - left') w1) (hI : L.Inv w1 σ' T2) (hbr : br ∉ T2) (hT : ∀ b ∈ T2, b ∈ T' ∨ wr.heap.size ≤ b) (hl : left' ≤ 500) (ha : σ'.length + left' ≤ 1000)
    (hf : mu left' (bl s') < gf') (hrun : exF cp L.ans gf' left' (bl s') out σ' = r') :
    ExAt L cp br W T r' gf' s' out left' σ' T2 w1 where
  fuel := hf
  left5 := hl
  run := hrun
  bld := h.bld.keepT h.inv h.rd h.bT (by have := h.br_lt; omega) hK
  rd := hR
  inv := hI
  brT := hbr
  bT := fun hm => (hT _ hm).elim h.bT fun h2 => by have := h.bld.lt; omega
  sub := fun b hb => (hT b hb).elim (h.sub b) fun h2 => .inr (Nat.le_trans h.keep.size h2)
  keep := h.keep.trans hK fun b hb => by
    rcases List.mem_cons.1 hb with rfl | hb
    · exact .inl List.mem_cons_self
    · exact (h.sub b hb).imp (List.mem_cons_of_mem _) id
  asks := ha
  base_le := h.base_le
  br_lt := h.br_lt
end Go.Proofs.Ytcahlfafadabaaa
