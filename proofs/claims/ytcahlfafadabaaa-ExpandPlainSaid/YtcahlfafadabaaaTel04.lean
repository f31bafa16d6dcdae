/- The law's teller and the reference's World: what is asked, what is answered. -/
import Derived.Test.YtcahlfafadabaaaLook04
import Derived.Test.YtcahlfafadabaaaRep2
import Derived.Test.YtcahlfafadabaaaBa04
import Derived.Lib.MinMax
import Derived.Deep.CutRange
namespace Go.Proofs.Ytcahlfafadabaaa
open Go.RowKit

def askCells (q : AskR) : List Value := [.int .u8 q.kind.toNat, .string (ba q.name), .int .i64 q.step]
def rAsk : Rp AskR where
  sz := 3
  K := fun _ _ q cs => cs = askCells q
  len := fun h => by rw [h]; rfl
  one := fun h u hu => by
    rw [h] at hu
    simp [askCells] at hu
    rcases hu with rfl | rfl | rfl <;> rfl
  move := fun _ h => h
theorem infoAsk : (Try.prog.info? 55).map (fun i => (i.zero, i.size, i.bytes)) = some (some (.agg #[.int .u8 0, .string ⟨#[]⟩, .int .i64 0]), 3, 32) := by kernel_rfl

/-- The sum that picks the answer, as the machine adds it. -/
def sum0 (q : AskR) : Int := wrap64 (wrap64 (wrap64 (q.kind.toNat : Int) + wrap64 (3 * ((ba q.name).size : Int))) + q.step)
def sumF (n : Int) (l : Bs) : Int := l.foldl (fun n c => wrap64 (n + wrap64 (c.toNat : Int))) n
def ansOf (A : List ByteArray) (q : AskR) : Bs := if A = [] then [] else bl (A[(max 0 (sumF (sum0 q) q.name) % (A.length : Int)).toNat]?.getD ⟨#[]⟩)
theorem ansOf_nil (q : AskR) : ansOf [] q = [] := rfl
theorem sumF_snoc (n : Int) (l : Bs) (c : UInt8) : sumF n (l ++ [c]) = wrap64 (sumF n l + wrap64 (c.toNat : Int)) := by simp [sumF, List.foldl_append]

structure Tel (t : TypeId) (base : Nat) (W0 : World) (A : List ByteArray) (g : Nat) (av nv : Value) (σ : List AskR) (W : World) : Prop where
  blk : W.heap[g]? = some (.cells #[av, nv] t (0, 0))
  own : OwnS rAsk 55 W base [g] av σ
  ans : Sl Rp.str W0 [] nv A
  old : ∀ b, b < W0.heap.size → W.heap[b]? = W0.heap[b]?
  le0 : W0.heap.size ≤ base
  leg : base ≤ g
theorem Tel.lt {t : TypeId} {base : Nat} {W0 : World} {A : List ByteArray} {g : Nat} {av nv : Value} {σ : List AskR} {W : World} (h : Tel t base W0 A g av nv σ W) : g < W.heap.size := (Array.getElem?_eq_some_iff.1 h.blk).1
theorem Tel.moved {t : TypeId} {base : Nat} {W0 : World} {A : List ByteArray} {g : Nat} {av nv : Value} {σ : List AskR} {W W' : World} (h : Tel t base W0 A g av nv σ W) (hk : ∀ b, b < base ∨ b ∈ g :: _root_.Go.Proofs.Ytcahlfafadabaaa.blk av → W'.heap[b]? = W.heap[b]?) : Tel t base W0 A g av nv σ W' where
  blk := (hk g (.inr List.mem_cons_self)).trans h.blk
  own := by
    obtain ⟨cells, ho, hL, hx⟩ := h.own
    refine ⟨cells, own_keep ho fun b hb => hk b (.inr (List.mem_cons_of_mem _ (by unfold _root_.Go.Proofs.Ytcahlfafadabaaa.blk; rw [hb]; exact List.mem_cons_self))), hL, fun i x hi => hx i x hi⟩
  ans := h.ans
  old := fun b hb => (hk b (.inl (Nat.lt_of_lt_of_le hb h.le0))).trans (h.old b hb)
  le0 := h.le0
  leg := h.leg
theorem Tel.sl {t : TypeId} {base : Nat} {W0 : World} {A : List ByteArray} {g : Nat} {av nv : Value} {σ : List AskR} {W : World} (h : Tel t base W0 A g av nv σ W) : Sl Rp.str W [] nv A :=
  h.ans.move fun b hb _ => ⟨by simp, h.old b hb⟩
def TelInv (t : TypeId) (base : Nat) (W0 : World) (A : List ByteArray) (g : Nat) (W : World) (σ : List AskR) (T : List Nat) : Prop := ∃ av nv, T = g :: blk av ∧ Tel t base W0 A g av nv σ W
theorem TelInv.stab {t : TypeId} {base : Nat} {W0 : World} {A : List ByteArray} {g : Nat} {W W' : World} {σ : List AskR} {T : List Nat} (h : TelInv t base W0 A g W σ T) (hk : ∀ b, b < base ∨ b ∈ T → W'.heap[b]? = W.heap[b]?) : TelInv t base W0 A g W' σ T := by
  obtain ⟨av, nv, rfl, h⟩ := h
  exact ⟨av, nv, rfl, h.moved hk⟩
theorem TelInv.blocks {t : TypeId} {base : Nat} {W0 : World} {A : List ByteArray} {g : Nat} {W : World} {σ : List AskR} {T : List Nat} (ht : t ≠ 5) (h : TelInv t base W0 A g W σ T) : ∀ b ∈ T, base ≤ b ∧ b < W.heap.size ∧ ∀ c fz, W.heap[b]? ≠ some (.cells c 5 fz) := by
  obtain ⟨av, nv, rfl, h⟩ := h
  intro b hb
  rcases List.mem_cons.1 hb with rfl | hb
  · exact ⟨h.leg, h.lt, fun c fz e => by rw [h.blk] at e; cases e; exact ht rfl⟩
  · refine ⟨h.own.blk_ge b hb, h.own.blk_lt b hb, fun c fz e => ?_⟩
    obtain ⟨cells, ⟨_, ⟨rfl, _⟩ | ⟨g', cap, cur, rfl, _, hh, _⟩⟩, _⟩ := h.own
    · simp [blk, Value.ownBlock] at hb
    · simp [blk, Value.ownBlock] at hb
      subst hb
      rw [hh] at e
      cases e
theorem lit_cells2 (w : World) (cs : List Value) (a : Obj) (t : TypeId) (j : Nat) (x : Value) (h : cs[j]? = some x) : ((w.alloc a).alloc (.cells cs.toArray t)).drew.cell? ⟨w.heap.size + 1, j, none⟩ = some x := by
  have := new_cells (w.alloc a) cs t j x h
  simpa using this
theorem below_aad {w : World} (a b : Obj) : Below w.heap.size w ((w.alloc a).alloc b).drew := below_drew ((((Below.refl _ _).alloc (Nat.le_refl _) _).alloc (by simp) _))
theorem set0 (w : World) (b : Nat) (x y v : Value) (t : TypeId) (h : w.heap[b]? = some (.cells #[x, y] t (0, 0))) : (w.setCell ⟨b, 0, none⟩ v).heap[b]? = some (.cells #[v, y] t (0, 0)) := by
  simp only [World.setCell]
  rw [Array.getElem?_modify, if_pos rfl, h]
  rfl
theorem set_far (w : World) (p : Addr) (v : Value) (b : Nat) (h : b ≠ p.block) : (w.setCell p v).heap[b]? = w.heap[b]? := Keep.setCell.setCell_other' w p v b h
theorem set_sz (w : World) (p : Addr) (v : Value) : (w.setCell p v).heap.size = w.heap.size := Keep.setCell.setCell_size' w p v
theorem box_blk (w : World) (x : Array Value) (t : TypeId) (o : Obj) : ((w.alloc (.cells x t)).alloc o).drew.heap[w.heap.size]? = some (.cells x t (0, 0)) := by
  show ((w.alloc (.cells x t)).heap.push _)[w.heap.size]? = _
  rw [Array.getElem?_push, if_neg (by simp)]
  show (w.heap.push _)[w.heap.size]? = _
  rw [Array.getElem?_push, if_pos rfl]
theorem own_ne {α : Type} {d : Rp α} {e : TypeId} {w : World} {base : Nat} {L : List Nat} {v : Value} {xs : List α} (h : OwnS d e w base L v xs) {b : Nat} (hb : b ∈ L) : some b ≠ v.ownBlock := fun e => h.choose_spec.2.1 b e.symm hb
theorem own_ne2 {α : Type} {d : Rp α} {e : TypeId} {w : World} {base : Nat} {L : List Nat} {v : Value} {xs : List α} (h : OwnS d e w base L v xs) {b : Nat} (hb : w.heap.size ≤ b) : some b ≠ v.ownBlock := fun e => by
  have := h.blk_lt b (by unfold blk; rw [← e]; simp)
  omega
/-- Behind the note that was made. -/
theorem Tel.noted {t : TypeId} {base : Nat} {W0 : World} {A : List ByteArray} {g : Nat} {av nv : Value} {σ : List AskR} {q : AskR} {W W1 w1 wx : World} {g1 cap : Nat} (h : Tel t base W0 A g av nv σ W) (hb : Below W.heap.size W W1) 
    (hO : OwnS rAsk 55 w1 base [g] (.slice (some ⟨g1, 0, none⟩) (σ.length + 1) cap) (σ ++ [q])) (hgr : W1.grownBy w1 av.ownBlock) (hat : av.ownBlock = some g1 ∨ g1 = W1.heap.size)
    (hx : wx = w1.setCell ⟨g, 0, none⟩ (.slice (some ⟨g1, 0, none⟩) (σ.length + 1) cap)) :
    Tel t base W0 A g (.slice (some ⟨g1, 0, none⟩) (σ.length + 1) cap) nv (σ ++ [q]) wx ∧ Keep (g :: _root_.Go.Proofs.Ytcahlfafadabaaa.blk av) W wx ∧ (g1 ∈ _root_.Go.Proofs.Ytcahlfafadabaaa.blk av ∨ W.heap.size ≤ g1) ∧ W1.heap.size ≤ wx.heap.size ∧ ∀ b, W.heap.size ≤ b → b < W1.heap.size → wx.heap[b]? = W1.heap[b]? := by
  have hs := hb.size
  have hne := own_ne h.own (b := g) (by simp)
  have hgW : g < W1.heap.size := Nat.lt_of_lt_of_le h.lt hs
  have hgg : g1 ≠ g := fun e => hO.choose_spec.2.1 g (by rw [e]; rfl) (by simp)
  have h1 : w1.heap[g]? = some (.cells #[av, nv] t (0, 0)) := (hgr.block g hgW hne).trans ((hb.block g h.lt).trans h.blk)
  have hk1 : ∀ b, b < W1.heap.size → some b ≠ av.ownBlock → b ≠ g → wx.heap[b]? = W1.heap[b]? := fun b hb hn hg => by rw [hx, set_far _ _ _ _ hg]; exact hgr.block b hb hn
  subst hx
  refine ⟨⟨set0 _ _ _ _ _ _ h1, ?_, h.ans, ?_, h.le0, h.leg⟩, ?_, ?_, ?_, ?_⟩
  · obtain ⟨cells, ho, hL, hx⟩ := hO
    exact ⟨cells, own_keep ho fun b hb => set_far _ _ _ _ (fun e => by rw [e] at hb; exact hL _ hb (by simp)), hL, fun i x hi => hx i x hi⟩
  · intro b hb'
    have := h.leg
    have := h.le0
    have := h.lt
    rw [hk1 b (by omega) (fun e => by have := h.own.blk_ge b (by unfold _root_.Go.Proofs.Ytcahlfafadabaaa.blk; rw [← e]; simp); omega) (by omega), hb.block b (by omega)]
    exact h.old b hb'
  · refine ⟨?_, ?_, ?_, ?_, fun b hb' hn => ?_⟩
    · exact hgr.os.trans hb.os
    · exact hgr.tape.trans hb.tape
    · exact hgr.output.trans hb.output
    · rw [set_sz]; exact Nat.le_trans hs hgr.size
    · rw [hk1 b (by omega) (fun e => hn (List.mem_cons_of_mem _ (by unfold _root_.Go.Proofs.Ytcahlfafadabaaa.blk; rw [← e]; simp))) (fun e => hn (by rw [e]; exact List.mem_cons_self)), hb.block b hb']
  · rcases hat with h | h
    · left; unfold _root_.Go.Proofs.Ytcahlfafadabaaa.blk; rw [h]; simp
    · right; omega
  · rw [set_sz]; exact hgr.size
  · intro b hb1 hb2
    exact hk1 b hb2 (own_ne2 h.own hb1) (fun e => by have := h.lt; omega)
/-- When it is noted. -/
def Noted (t : TypeId) (base : Nat) (W0 : World) (A : List ByteArray) (g : Nat) (av nv : Value) (σ : List AskR) (q : AskR) (W wx : World) : Prop := ∃ g1 cap,
  Tel t base W0 A g (.slice (some ⟨g1, 0, none⟩) (σ.length + 1) cap) nv (σ ++ [q]) wx ∧ Keep (g :: blk av) W wx ∧ (g1 ∈ blk av ∨ W.heap.size ≤ g1) ∧ wx.heap[W.heap.size]? = some (.cells (askCells q).toArray 55 (0, 0))
theorem keep_drewN {T : List Nat} {W W' : World} (h : Keep T W W') (n : Nat) : Keep T W (W'.drewN n) := ⟨h.os, h.tape, h.output, h.size, h.block⟩
theorem sub_of {g g1 n cap : Nat} {av : Value} {W : World} (h : g1 ∈ blk av ∨ W.heap.size ≤ g1) : ∀ b ∈ g :: blk (.slice (some ⟨g1, 0, none⟩) n cap), b ∈ g :: blk av ∨ W.heap.size ≤ b := by
  intro b hb
  simp [blk, Value.ownBlock] at hb
  rcases hb with rfl | rfl
  · exact .inl List.mem_cons_self
  · exact h.imp (List.mem_cons_of_mem _) id
/-- What holds behind an answer. -/
def AnsPost (t : TypeId) (base : Nat) (W0 : World) (A : List ByteArray) (g : Nat) (W : World) (σ : List AskR) (T : List Nat) (q : AskR) (e : Ending) (W' : World) : Prop :=
  ∃ (s : ByteArray) (T' : List Nat), e = .returned (.string s) ∧ bl s = ansOf A q ∧ TelInv t base W0 A g W' (σ ++ [q]) T' ∧ Keep T W W' ∧ ∀ b ∈ T', b ∈ T ∨ W.heap.size ≤ b
set_option maxHeartbeats 1600000 in
theorem Answer_spec (t : TypeId) (base : Nat) (W0 : World) (A : List ByteArray) (g : Nat) (W : World) (σ : List AskR) (T : List Nat) (q : AskR) (hI : TelInv t base W0 A g W σ T) (hσ : σ.length ≤ 1000) (hq : q.name.length ≤ 10000) :
    Calls Try.prog 21 #[.pointer (some ⟨g, 0, none⟩), .agg #[.int .u8 q.kind.toNat, .string (ba q.name), .int .i64 q.step]] W (AnsPost t base W0 A g W σ T q) := by
  obtain ⟨av, nv, rfl, hT⟩ := hI
  obtain ⟨NA, nc, rfl, _⟩ := hT.ans.val
  have c0 := cellOf hT.blk 0
  have c1 := cellOf hT.blk 1
  have fz := frozOf hT.blk
  have hlt := hT.lt
  have HT := Lib.hid hT
  clear hT
  simp at c0 c1
  go_enter Try.func21, Try.ntmps21
  go_wp2_with fail
  go_cut [] from 7 to 16 (fun wx => Noted t base W0 A g av (.slice NA A.length nc) σ q W wx)
  case first =>
    go_region_law (
      refine step_push rAsk (by rfl) _ _ _ (by rfl) base 55 _ 32 [g] σ q (askCells q) av (W.heap.size + 1) Try.underlying36 infoAsk (by rfl) (by decide) (by rfl) ?hO (by rfl) ?hc ?hy ?hl ?h63 ?hb ?hL ?_
      case hO => exact HT.out.own.below (below_aad _ _)
      case hc => exact lit_cells2 _ (askCells q) _ _
      case hy => rfl
      case hl => omega
      case h63 => omega
      case hb => have := HT.out.leg; simp; omega
      case hL => intro b hb; simp at hb; subst hb; simp; omega
      intro g1 cap w1 hO1 hgr1 hfr1 hat1 hlt1
      have q4 := (cell_of_heap (hgr1.block g (by simp; omega) (own_ne HT.out.own (by simp))) 0).trans (cell_up (below_aad _ _) c0)
      have z4 := (frozen_of_heap (hgr1.block g (by simp; omega) (own_ne HT.out.own (by simp))) 0).trans (frozen_up (below_aad _ _) hlt (fz 0)))
    all_goals
      go_wp2_with fail
      go_meet
      case rel =>
        obtain ⟨hTx, hK, hg1, hsz, hbx⟩ := HT.out.noted (below_aad _ _) hO1 hgr1 hat1 rfl
        exact ⟨_, _, hTx, hK, hg1, (hbx W.heap.size (Nat.le_refl _) (by simp; omega)).trans (box_blk _ _ _ _)⟩
  case rest =>
    obtain ⟨g1, cap, hTx, hK, hg1, hbox⟩ := hcut
    have e1 := cellOf hTx.blk 1
    have b0 := cellOf hbox 0
    have b1 := cellOf hbox 1
    have b2 := cellOf hbox 2
    simp [askCells] at e1 b0 b1 b2
    have HTX := Lib.hid (And.intro hTx (And.intro hK hg1))
    clear hTx hK hg1 hbox c0 c1 fz hlt HT
    cases A with
    | nil =>
      go_wp2_with fail
      go_ret
      exact ⟨_, _, rfl, rfl, ⟨_, _, rfl, HTX.out.1⟩, HTX.out.2.1, sub_of HTX.out.2.2⟩
    | cons a0 A0 =>
      have n0 : (((a0 :: A0).length : Int) == 0) = false := by rw [beq_eq_false_iff_ne]; simp; omega
      have HL : Hid (0 < (a0 :: A0).length) := Lib.hid (by simp)
      generalize a0 :: A0 = A at *
      go_wp2_with fail
      have hsz : (ba q.name).size = q.name.length := by rw [← bl_len, bl_ba]
      go_loopw [5, 6] (fun v i wr => wr = wc ∧ ∃ (k : Nat) (n : Int), k ≤ q.name.length ∧ v = .int .i64 n ∧ i = .int .i64 k ∧ n = sumF (sum0 q) (q.name.take k)) (fun _ i _ => q.name.length - (intOf i).toNat)
      case atStart => exact ⟨rfl, 0, _, Nat.zero_le _, rfl, rfl, by rw [List.take_zero, sumF, List.foldl_nil, sum0]⟩
      case round =>
        obtain ⟨rfl, k, n, hk, rfl, rfl, hn⟩ := hrel
        by_cases hlt : k < q.name.length
        · have HN : Hid (sumF (sum0 q) (q.name.take (k + 1)) = wrap64 (n + wrap64 (q.name[k].toNat : Int))) := Lib.hid (by rw [take_snoc hlt, sumF_snoc, ← hn])
          obtain ⟨hi, hg⟩ := bl_get (s := ba q.name) (i := k) (c := q.name[k]) (by rw [bl_ba]; exact List.getElem?_eq_getElem hlt)
          generalize q.name[k] = c at *
          have i1 : (k : Int) < ((ba q.name).size : Int) := by omega
          have i3 : (0 : Int) ≤ (k : Int) := by omega
          clear hn
          go_wp2_with fail
          go_roundw
          case rel => exact ⟨by trivial, k + 1, _, by omega, rfl, by go_num, HN.out.symm⟩
          case measure => simp [intOf]; omega
        · have hk' : k = q.name.length := by omega
          have hns : n = sumF (sum0 q) q.name := by rw [hn, hk', List.take_length]
          have i1 : ¬ (k : Int) < ((ba q.name).size : Int) := by omega
          obtain ⟨r, hr⟩ : ∃ r : Nat, (max 0 n).tmod (A.length : Int) = (r : Int) := ⟨((max 0 n).tmod (A.length : Int)).toNat, by have := Int.tmod_nonneg (a := max 0 n) (A.length : Int) (by omega); omega⟩
          have hrl : r < A.length := by
            have := Int.tmod_lt_of_pos (max 0 n) (b := (A.length : Int)) (by have := HL.out; omega)
            omega
          obtain ⟨b, o, hNA, hb, cs, hcs, hc⟩ := HTX.out.1.sl.get hrl
          have hans : bl A[r] = ansOf A q := by
            have hne : A ≠ [] := fun e => by rw [e] at hrl; exact absurd hrl (Nat.not_lt_zero _)
            rw [ansOf, if_neg hne, ← hns, show (max 0 n % (A.length : Int)).toNat = r from by
              have := Int.tmod_eq_emod_of_nonneg (a := max 0 n) (b := (A.length : Int)) (by omega)
              omega, List.getElem?_eq_getElem hrl]
            rfl
          have hc0 := hc 0 (.string A[r]) (by rw [hcs]; rfl)
          have HAN := Lib.hid hans
          subst hNA
          generalize A[r] = ar at *
          have i4 : (r : Int) < (A.length : Int) := by omega
          have i5 : (0 : Int) ≤ (r : Int) := by omega
          have e1' := Lib.hid e1
          simp [Rp.str, Rp.scalar] at hc0
          clear hn hk' hns hans hc hcs
          go_wp2_with fail
          go_quiet (fail)
          go_wp2_with fail
          go_ret
          exact ⟨_, _, rfl, HAN.out, ⟨_, _, rfl, HTX.out.1.moved (fun _ _ => rfl)⟩, keep_drewN HTX.out.2.1 _, sub_of HTX.out.2.2⟩
theorem look_spec (base : Nat) (W0 : World) (A : List ByteArray) (g : Nat) (W : World) (σ : List AskR) (T : List Nat) (q : AskR) (hI : TelInv 40 base W0 A g W σ T) (hσ : σ.length ≤ 1000) (hq : q.name.length ≤ 10000) :
    Calls Try.prog 13 #[.pointer (some ⟨g, 0, none⟩), .int .u8 q.kind.toNat, .string (ba q.name), .int .i64 q.step] W (AnsPost 40 base W0 A g W σ T q) := by
  go_enter Try.func13, Try.ntmps13
  go_wp2_with fail
  refine (Answer_spec _ base W0 A g W σ T q hI hσ hq).mono ?_
  rintro e w1 ⟨s, T', rfl, h⟩
  have H := Lib.hid h
  clear h
  go_wp2_with fail
  go_ret
  exact ⟨_, T', rfl, H.out⟩
/-- The teller, as somebody who is asked. -/
def tellerLk (base : Nat) (W0 : World) (A : List ByteArray) (g : Nat) (hA : ∀ a ∈ A, a.size ≤ 100000) : Lk base where
  fid := 13
  first := #[.pointer (some ⟨g, 0, none⟩)]
  ans := ansOf A
  Inv := TelInv 40 base W0 A g
  stab := fun h _ hk => h.stab hk
  blocks := fun h => h.blocks (by decide)
  ansLen := fun q => by
    unfold ansOf
    split
    · simp
    · cases h : A[(max 0 (sumF (sum0 q) q.name) % (A.length : Int)).toNat]? with
      | none => simp [bl]
      | some a => simpa [bl] using hA a (List.mem_of_getElem? h)
  enters := enters_of Try.func13 (by kernel_rfl) rfl
  call := fun {W σ T} q nm hn h _ hσ hq => by
    rw [ba_of hn]
    exact look_spec base W0 A g W σ T q h hσ hq
end Go.Proofs.Ytcahlfafadabaaa
