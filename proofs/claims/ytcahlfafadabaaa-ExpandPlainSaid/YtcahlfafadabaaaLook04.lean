/- Who is asked, and (*reader).ask. -/
import Derived.Test.YtcahlfafadabaaaAsks04b
namespace Go.Proofs.Ytcahlfafadabaaa
open Go.RowKit

/-- All stands as it was but for the blocks of T; new blocks may come. -/
structure Keep (T : List Nat) (W W' : World) : Prop where
  os : W'.os = W.os
  tape : W'.tape = W.tape
  output : W'.output = W.output
  size : W.heap.size ≤ W'.heap.size
  block : ∀ b, b < W.heap.size → b ∉ T → W'.heap[b]? = W.heap[b]?
theorem Keep.refl (T : List Nat) (W : World) : Keep T W W := ⟨rfl, rfl, rfl, Nat.le_refl _, fun _ _ _ => rfl⟩
theorem Keep.trans {T T' : List Nat} {W W1 W2 : World} (h : Keep T W W1) (k : Keep T' W1 W2) (hT : ∀ b ∈ T', b ∈ T ∨ W.heap.size ≤ b) : Keep T W W2 :=
  ⟨k.os.trans h.os, k.tape.trans h.tape, k.output.trans h.output, Nat.le_trans h.size k.size, fun b hb hn => (k.block b (Nat.lt_of_lt_of_le hb h.size) fun h' => (hT b h').elim hn fun h2 => by omega).trans (h.block b hb hn)⟩
theorem Keep.of_below {T : List Nat} {B : Nat} {W W1 W2 : World} (h : Keep T W W1) (k : Below B W1 W2) (hB : W.heap.size ≤ B) : Keep T W W2 :=
  ⟨k.os.trans h.os, k.tape.trans h.tape, k.output.trans h.output, Nat.le_trans h.size k.size, fun b hb hn => (k.block b (Nat.lt_of_lt_of_le hb hB)).trans (h.block b hb hn)⟩
theorem Keep.weak {T T' : List Nat} {W W' : World} (h : Keep T W W') (hT : ∀ b ∈ T, b ∈ T' ∨ W.heap.size ≤ b) : Keep T' W W' :=
  ⟨h.os, h.tape, h.output, h.size, fun b hb hn => h.block b hb fun h' => (hT b h').elim hn fun h2 => by omega⟩
theorem Keep.below {W W' : World} (h : Keep [] W W') : Below W.heap.size W W' := ⟨h.os, h.tape, h.output, h.size, fun b hb => h.block b hb (by simp)⟩
theorem Keep.below_of {T : List Nat} {B : Nat} {W W' : World} (h : Keep T W W') (hB : B ≤ W.heap.size) (hT : ∀ b ∈ T, B ≤ b) : Below B W W' := ⟨h.os, h.tape, h.output, h.size, fun b hb => h.block b (by omega) fun hm => by have := hT b hm; omega⟩
theorem Keep.setCell {T : List Nat} {W W1 : World} (h : Keep T W W1) (p : Addr) (hp : p.block ∈ T) (v : Value) : Keep T W (W1.setCell p v) :=
  ⟨h.os, h.tape, h.output, by rw [setCell_size']; exact h.size, fun b hb hn => (setCell_other' W1 p v b (fun e => hn (e ▸ hp))).trans (h.block b hb hn)⟩
where
  setCell_size' (w : World) (p : Addr) (u : Value) : (w.setCell p u).heap.size = w.heap.size := by simp [World.setCell]
  setCell_other' (w : World) (p : Addr) (u : Value) (b : Nat) (h : b ≠ p.block) : (w.setCell p u).heap[b]? = w.heap[b]? := by
    simp only [World.setCell]
    rw [Array.getElem?_modify, if_neg (Ne.symm h)]

/-- Somebody who is asked: a function value; what it answers; what it rests on. -/
structure Lk (base : Nat) where
  fid : Nat
  first : Array Value
  ans : AskR → Bs
  Inv : World → List AskR → List Nat → Prop
  stab : ∀ {W W' : World} {σ : List AskR} {T : List Nat}, Inv W σ T → W.heap.size ≤ W'.heap.size → (∀ b, b < base ∨ b ∈ T → W'.heap[b]? = W.heap[b]?) → Inv W' σ T
  blocks : ∀ {W : World} {σ : List AskR} {T : List Nat}, Inv W σ T → ∀ b ∈ T, base ≤ b ∧ b < W.heap.size ∧ ∀ c fz, W.heap[b]? ≠ some (.cells c 5 fz)
  ansLen : ∀ q, (ans q).length ≤ 100000
  enters : ∀ args w, (callFunc fid args).run Try.prog w = .ok (.enter fid args) w
  call : ∀ {W : World} {σ : List AskR} {T : List Nat} (q : AskR) (nm : ByteArray), bl nm = q.name → Inv W σ T → base ≤ W.heap.size → σ.length ≤ 1000 → q.name.length ≤ 10000 →
    Calls Try.prog fid (first ++ #[Value.int .u8 q.kind.toNat, Value.string nm, Value.int .i64 q.step]) W fun e W' => ∃ (t : ByteArray) (T' : List Nat), e = .returned (.string t) ∧ bl t = ans q ∧ Inv W' (σ ++ [q]) T' ∧ Keep T W W' ∧ ∀ b ∈ T', b ∈ T ∨ W.heap.size ≤ b
def Lk.val {base : Nat} (L : Lk base) : Value := .func (.func L.fid) L.first #[]
/-- The reader's block. -/
def RdAt {base : Nat} (L : Lk base) (br : Nat) (cp : Bool) (asked : Nat) (W : World) : Prop := W.heap[br]? = some (.cells #[.func (.func L.fid) L.first #[], .bool cp, .int .i64 asked] 51 (0, 0))

def limitV : Value := .iface 47 (.agg #[])
theorem ask_full {base : Nat} (L : Lk base) (br : Nat) (cp : Bool) (k : Int) (W : World) (nm : ByteArray) (st : Int) (hR : RdAt L br cp 500 W) :
    Calls Try.prog 29 #[.pointer (some ⟨br, 0, none⟩), .int .u8 k, .string nm, .int .i64 st] W fun e W' => e = .panicked [{ v := limitV, recovered := false }] ∧ W = W' := by
  have c0 := cellOf hR 0
  have c1 := cellOf hR 1
  have c2 := cellOf hR 2
  have fz := frozOf hR
  simp at c0 c1 c2
  go_enter Try.func29, Try.ntmps29
  go_wp2_with fail
  exact ⟨rfl, rfl, rfl⟩
theorem rdAt_set {base : Nat} {L : Lk base} {br : Nat} {cp : Bool} {asked : Nat} {W : World} (hR : RdAt L br cp asked W) (v : Int) (hv : v = (asked : Int) + 1) : RdAt L br cp (asked + 1) (W.setCell ⟨br, 2, none⟩ (.int .i64 v)) := by
  unfold RdAt at *
  simp only [World.setCell]
  rw [Array.getElem?_modify, if_pos rfl, hR, hv]
  rfl
theorem ask_spec {base : Nat} (L : Lk base) (br : Nat) (cp : Bool) (asked : Nat) (W : World) (σ : List AskR) (T : List Nat) (q : AskR) (nm : ByteArray) (hR : RdAt L br cp asked W) (ha : asked < 500)
    (hI : L.Inv W σ T) (hbr : br ∉ T) (hb0 : base ≤ br) (hnm : bl nm = q.name) (hσ : σ.length ≤ 1000) (hq : q.name.length ≤ 10000) :
    Calls Try.prog 29 #[.pointer (some ⟨br, 0, none⟩), .int .u8 q.kind.toNat, .string nm, .int .i64 q.step] W fun e W' => ∃ (t : ByteArray) (T' : List Nat), e = .returned (.string t) ∧ bl t = L.ans q ∧ L.Inv W' (σ ++ [q]) T' ∧ RdAt L br cp (asked + 1) W' ∧ Keep (br :: T) W W' ∧ br ∉ T' ∧ ∀ b ∈ T', b ∈ T ∨ W.heap.size ≤ b := by
  have c0 := cellOf hR 0
  have c1 := cellOf hR 1
  have c2 := cellOf hR 2
  have fz := frozOf hR
  have i1 : ((asked : Int) == 500) = false := by simp; omega
  have hlt : br < W.heap.size := (Array.getElem?_eq_some_iff.1 hR).1
  have HI := Lib.hid hI
  have HR := Lib.hid (rdAt_set hR ((asked : Int) + 1) rfl)
  have HN := Lib.hid hnm
  have HB := Lib.hid hbr
  have hen := L.enters
  simp at c0 c1 c2
  clear hI hnm hR hbr
  go_enter Try.func29, Try.ntmps29
  go_wp2_with fail
  refine (L.call q nm HN.out (L.stab HI.out (by simp [World.setCell]) (fun b hb => Keep.setCell.setCell_other' _ _ _ _ (fun e => by
    rcases hb with hb | hb
    · exact absurd hb (by rw [e]; exact Nat.not_lt.2 hb0)
    · rw [e] at hb; exact HB.out hb))) (by simp [World.setCell]; omega) hσ hq).mono ?_
  rintro e w2 ⟨t, T', rfl, ht, hI2, hK, hT⟩
  have hKK : Keep (br :: T) W w2 := ((Keep.refl (br :: T) W).setCell ⟨br, 2, none⟩ List.mem_cons_self _).trans hK (fun b hb => .inl (List.mem_cons_of_mem _ hb))
  have hR2 : RdAt L br cp (asked + 1) w2 := by
    unfold RdAt
    rw [hK.block br (by simp [World.setCell]; omega) HB.out]
    exact HR.out
  have hbn : br ∉ T' := fun h => (hT br h).elim HB.out (fun h2 => by simp [World.setCell] at h2; omega)
  have hT2 : ∀ b ∈ T', b ∈ T ∨ W.heap.size ≤ b := fun b hb => (hT b hb).imp id (fun h2 => by simpa [World.setCell] using h2)
  have HH := Lib.hid (And.intro ht (And.intro hI2 (And.intro hKK (And.intro hR2 (And.intro hbn hT2)))))
  clear ht hI2 hK hT hKK hR2 hbn hT2
  go_wp2_with fail
  go_ret
  obtain ⟨h1, h2, h3, h4, h5, h6⟩ := HH.out
  exact ⟨t, T', rfl, h1, h2, h4, h3, h5, h6⟩
end Go.Proofs.Ytcahlfafadabaaa
