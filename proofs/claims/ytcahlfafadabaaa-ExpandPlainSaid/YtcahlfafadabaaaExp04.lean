/- expand.fits, expand.Expand: what the package tells. -/
import Derived.Test.YtcahlfafadabaaaExpand04b
import Derived.Defers
import Derived.Recover
import Derived.Laws.Pointers
namespace Go.Proofs.Ytcahlfafadabaaa
open Go.RowKit

def fitsP (l : Bs) : Bool := decide (l.length ≤ 2000) && !l.contains 10
theorem indexByte_mem (l : Bs) (c : UInt8) : decide (0 ≤ Lib.indexByte l c) = l.contains c := by
  induction l with
  | nil => rfl
  | cons b l ih =>
    unfold Lib.indexByte
    rw [List.contains_cons]
    by_cases h : b = c
    · subst h; simp
    · have h1 : (b == c) = false := by simpa using h
      have h2 : (c == b) = false := by simpa using fun e => h e.symm
      rw [h2, Bool.false_or, ← ih]
      simp only [h1, Bool.false_eq_true, if_false]
      have := Lib.indexByte_ge l c
      by_cases h3 : Lib.indexByte l c = -1
      · simp [h3]
      · have : (Lib.indexByte l c == -1) = false := by simpa using h3
        rw [this]
        simp only [Bool.false_eq_true, if_false]
        rw [decide_eq_decide]
        omega
theorem fits_spec (s : ByteArray) (w : World) : Calls Try.prog 18 #[.string s] w fun e w' => e = .returned (.bool (fitsP (bl s))) ∧ w = w' := by
  by_cases h : s.size ≤ 2000
  · have i1 : (s.size : Int) ≤ 2000 := by omega
    have HF : Hid (fitsP (bl s) = !(bl s).contains 10) := Lib.hid (by unfold fitsP; rw [bl_len, decide_eq_true h]; rfl)
    go_enter Try.func18, Try.ntmps18
    go_wp2_with fail
    refine (Try.strings_Contains_one s 10 w).mono ?_
    rintro e wz ⟨rfl, rfl⟩
    rw [indexByte_mem, show s.data.toList.contains 10 = (bl s).contains 10 from rfl]
    go_wp2_with fail
    go_ret
    exact ⟨ret_bool (by rw [HF.out]; simp), rfl⟩
  · have i1 : ¬ (s.size : Int) ≤ 2000 := by omega
    have HF : Hid (fitsP (bl s) = false) := Lib.hid (by unfold fitsP; rw [bl_len, decide_eq_false h]; rfl)
    go_enter Try.func18, Try.ntmps18
    go_wp2_with fail
    go_ret
    exact ⟨ret_bool (by rw [HF.out]), rfl⟩
def BIG : Nat := 4100000
/-- What Expand tells: text, error, what was asked. -/
def resOf (cp : Bool) (A : AskR → Bs) (s : Bs) (σ : List AskR) : Bs × Int × List AskR :=
  if fitsP s then
    match exF cp A BIG 500 s [] σ with
    | .done out _ σ' => (out, 0, σ')
    | .fail σ' => ([], 2, σ')
  else ([], 1, σ)
theorem catch_panicking (b : Nat) (x : Value) (y : Int) (older : List PanicEntry) (w : World) (hb : w.heap[b]? = some (.cells #[x] 9 (0, 0))) (hc : w.heap[b + 1]? = some (.cells #[.int .i64 y] 30 (0, 0))) :
    CallsD Try.prog 19 #[.pointer (some ⟨b, 0, none⟩), .pointer (some ⟨b + 1, 0, none⟩)] (.panicking ({ v := limitV, recovered := false } :: older)) w fun e u' w' => e = .returned (.tuple #[]) ∧ u' = .panicking ({ v := limitV, recovered := true } :: older) ∧
      w' = ((w.alloc (.cells #[] 47)).setCell ⟨b, 0, none⟩ (.string ⟨#[]⟩)).setCell ⟨b + 1, 0, none⟩ (.int .i64 2) := by
  unfold limitV at *
  have hta : ∀ w, (Instr.typeAssert (.iface 47 (.agg #[])) 20 47 true).run Try.prog w = .ok (.tuple #[.agg #[], .bool true]) w := fun w => by kernel_rfl
  have hb2 := fun o => cell_up ((Below.refl w.heap.size w).alloc (Nat.le_refl _) o) (b := b) (o := 0) (v := x) (by rw [cellOf hb 0]; rfl)
  have hc2 := fun o => cell_up ((Below.refl w.heap.size w).alloc (Nat.le_refl _) o) (b := b + 1) (o := 0) (v := .int .i64 y) (by rw [cellOf hc 0]; rfl)
  have fb : ∀ o, (w.alloc o).frozen? ⟨b, 0, none⟩ = false := fun o => by
    have := ((Below.refl w.heap.size w).alloc (Nat.le_refl _) o).block b (Array.getElem?_eq_some_iff.1 hb).1
    simp only [World.frozen?, this, hb]; simp
  have fc : ∀ o, (w.alloc o).frozen? ⟨b + 1, 0, none⟩ = false := fun o => by
    have := ((Below.refl w.heap.size w).alloc (Nat.le_refl _) o).block (b + 1) (Array.getElem?_eq_some_iff.1 hc).1
    simp only [World.frozen?, this, hc]; simp
  clear hb hc
  refine callsD_of_wpS Try.func19 rfl fun c₀ cs hu => ?_
  apply wpS_seq
  apply wpS_region
  simp [wpOpsS, go_sem, recoverD, hu, Try.ntmps19, Exit.thenS]
  refine wpS_of_wp ?_
  simp only [Array.replicate, List.replicate, List.setIfInBounds_toArray, List.set_cons_succ, List.set_cons_zero, List.append_toArray, List.cons_append, List.nil_append]
  go_wp2_with fail
  exact ⟨rfl, _, rfl, .tuple #[], by simp [results, Try.results19, go_sem], rfl, rfl, rfl⟩
theorem catch_idle (p q : Addr) (w : World) :
    CallsD Try.prog 19 #[.pointer (some p), .pointer (some q)] .returning w fun e u' w' => e = .returned (.tuple #[]) ∧ u' = .returning ∧ w' = w := by
  refine callsD_of_wpS Try.func19 rfl fun c₀ cs hu => ?_
  apply wpS_seq
  apply wpS_region
  simp [wpOpsS, go_sem, recoverD, hu, Try.ntmps19, Exit.thenS]
  refine wpS_of_wp ?_
  simp only [Array.replicate, List.replicate, List.setIfInBounds_toArray, List.set_cons_succ, List.set_cons_zero, List.append_toArray, List.cons_append, List.nil_append]
  go_wp2_with fail
  refine ⟨rfl, .returning, ?_, .tuple #[], by simp [results, Try.results19, go_sem], rfl, rfl, rfl⟩
  rw [← hu]
/-- What Expand hands back. -/
def ExpPost {base : Nat} (L : Lk base) (W : World) (T : List Nat) (r : Bs × Int × List AskR) (e : Ending) (W' : World) : Prop :=
  ∃ (t : ByteArray) (T' : List Nat), e = .returned (.tuple #[.string t, .int .i64 r.2.1]) ∧ bl t = r.1 ∧ Keep T W W' ∧ L.Inv W' r.2.2 T' ∧ ∀ b ∈ T', b ∈ T ∨ W.heap.size ≤ b
theorem nil_nil (w : World) : (binOp .eql 45 .nilFunc .nilFunc).run Try.prog w = .ok (.bool true) w := by kernel_rfl
theorem func_nil (f : FuncId) (a : Array Value) (w : World) : (binOp .eql 45 (.func (.func f) a #[]) .nilFunc).run Try.prog w = .ok (.bool false) w := by kernel_rfl
theorem nil_spec (s : ByteArray) (cp : Bool) (w : World) :
    Calls Try.prog 11 #[.string s, .bool cp, .nilFunc] w fun e w' => e = .returned (.tuple #[.string ⟨#[]⟩, .int .i64 1]) ∧ Below w.heap.size w w' := by
  have hmf : ∀ (fn : Fn) (first cap : Array Value) (w : World), (Instr.makeFunc fn first cap).run Try.prog w = .ok (.func fn first cap) w := fun _ _ _ _ => rfl
  have hnn := nil_nil
  have hB : ∀ a b, Below w.heap.size w ((w.alloc a).alloc b) := fun a b => ((Below.refl _ _).alloc (Nat.le_refl _) _).alloc (by simp) _
  go_enter_defers Try.func11, Try.ntmps11
  go_wp2_with fail
  refine (fits_spec s _).mono ?_
  rintro e w1 ⟨rfl, rfl⟩
  cases hf : fitsP (bl s) with
  | true =>
    go_wp2_with fail
    simp [bodyPostD, Leaves, results, Try.results11, go_sem, hB]
  | false =>
    go_wp2_with fail
    simp [bodyPostD, Leaves, results, Try.results11, go_sem, hB]
theorem three_blocks (w : World) (x y z : Array Value) (t1 t2 t3 : TypeId) : let W := ((w.alloc (.cells x t1)).alloc (.cells y t2)).alloc (.cells z t3)
    W.heap[w.heap.size]? = some (.cells x t1 (0, 0)) ∧ W.heap[w.heap.size + 1]? = some (.cells y t2 (0, 0)) ∧ W.heap[w.heap.size + 2]? = some (.cells z t3 (0, 0)) ∧ W.heap.size = w.heap.size + 3 ∧ Below w.heap.size w W := by
  intro W
  have hs : (w.alloc (.cells x t1)).heap.size = w.heap.size + 1 := by simp
  have hs2 : ((w.alloc (.cells x t1)).alloc (.cells y t2)).heap.size = w.heap.size + 2 := by simp
  refine ⟨?_, ?_, ?_, by simp [W], (((Below.refl _ _).alloc (Nat.le_refl _) _).alloc (by simp) _).alloc (by simp; omega) _⟩
  · show (((w.alloc (.cells x t1)).alloc (.cells y t2)).heap.push _)[w.heap.size]? = _
    rw [Array.getElem?_push, if_neg (by omega)]
    show ((w.alloc (.cells x t1)).heap.push _)[w.heap.size]? = _
    rw [Array.getElem?_push, if_neg (by omega)]
    show (w.heap.push _)[w.heap.size]? = _
    rw [Array.getElem?_push, if_pos rfl]
  · show (((w.alloc (.cells x t1)).alloc (.cells y t2)).heap.push _)[w.heap.size + 1]? = _
    rw [Array.getElem?_push, if_neg (by omega)]
    show ((w.alloc (.cells x t1)).heap.push _)[w.heap.size + 1]? = _
    rw [Array.getElem?_push, if_pos hs.symm]
  · show (((w.alloc (.cells x t1)).alloc (.cells y t2)).heap.push _)[w.heap.size + 2]? = _
    rw [Array.getElem?_push, if_pos hs2.symm]
theorem setCell_blk (w : World) (b : Nat) (c : Array Value) (t : TypeId) (v : Value) (h : w.heap[b]? = some (.cells c t (0, 0))) : (w.setCell ⟨b, 0, none⟩ v).heap[b]? = some (.cells (c.setIfInBounds 0 v) t (0, 0)) := by
  simp only [World.setCell]
  rw [Array.getElem?_modify, if_pos rfl, h]
  rfl
theorem setCell_far (w : World) (p : Addr) (v : Value) (b : Nat) (h : b ≠ p.block) : (w.setCell p v).heap[b]? = w.heap[b]? := Keep.setCell.setCell_other' w p v b h
theorem setCell_sz (w : World) (p : Addr) (v : Value) : (w.setCell p v).heap.size = w.heap.size := Keep.setCell.setCell_size' w p v
set_option maxHeartbeats 1600000 in
theorem Expand_spec {base : Nat} (L : Lk base) (s : ByteArray) (cp : Bool) (w : World) (σ : List AskR) (T : List Nat) (hI : L.Inv w σ T) (hbase : base ≤ w.heap.size) (hσ : σ.length ≤ 500) :
    Calls Try.prog 11 #[.string s, .bool cp, .func (.func L.fid) L.first #[]] w (ExpPost L w T (resOf cp L.ans (bl s) σ)) := by
  have hmf : ∀ (fn : Fn) (first cap : Array Value) (w : World), (Instr.makeFunc fn first cap).run Try.prog w = .ok (.func fn first cap) w := fun _ _ _ _ => rfl
  have hnn := func_nil
  have HI := Lib.hid hI
  have hT := L.blocks hI
  have HT := Lib.hid (fun b hb => (hT b hb).2.1)
  clear hI hT
  go_enter_defers Try.func11, Try.ntmps11
  go_wp2_with fail
  refine (fits_spec s _).mono ?_
  rintro e w1 ⟨rfl, rfl⟩
  cases hf : fitsP (bl s) with
  | false =>
    have HR : Hid (resOf cp L.ans (bl s) σ = ([], 1, σ)) := Lib.hid (by unfold resOf; rw [hf]; rfl)
    clear hf
    have hB : ∀ a b, Below w.heap.size w ((w.alloc a).alloc b) := fun a b => ((Below.refl _ _).alloc (Nat.le_refl _) _).alloc (by simp) _
    have HE : ∀ a b, Hid (ExpPost L w T (resOf cp L.ans (bl s) σ) (.returned (.tuple #[.string ⟨#[]⟩, .int .i64 1])) ((w.alloc a).alloc b)) := fun a b => Lib.hid (by
      rw [HR.out]
      exact ⟨_, T, rfl, rfl, (Keep.refl _ _).of_below (hB a b) (Nat.le_refl _), inv_below HI.out (hB a b) hbase, fun b hb => .inl hb⟩)
    go_wp2_with fail
    refine ⟨.tuple #[.string ⟨#[]⟩, .int .i64 1], by simp [results, Try.results11, go_sem], (HE _ _).out⟩
  | true =>
    have hl : (bl s).length ≤ 2000 := by unfold fitsP at hf; simp at hf; exact hf.1
    have HR : Hid (resOf cp L.ans (bl s) σ = match exF cp L.ans BIG 500 (bl s) [] σ with
      | .done out _ σ' => (out, 0, σ')
      | .fail σ' => ([], 2, σ')) := Lib.hid (by unfold resOf; rw [hf]; rfl)
    have HW := Lib.hid (three_blocks w #[.string ⟨#[]⟩] #[.int .i64 0] #[.func (.func L.fid) L.first #[], .bool cp, .int .i64 0] 9 30 51)
    clear hf
    go_wp2_with fail
    refine (expand_spec L cp BIG 500 s _ σ T (w.heap.size + 2) (by unfold mu BIG; omega) (Nat.le_refl _) (by omega) HW.out.2.2.1 (inv_below HI.out HW.out.2.2.2.2 hbase) (fun h => by have := HT.out _ h; omega) (by omega) (by omega)).mono ?_
    rintro e w3 ⟨hK, T', hbr, hT', hc⟩
    have k0 := (hK.block w.heap.size (by rw [HW.out.2.2.2.1]; omega) (fun h => by rcases List.mem_cons.1 h with h | h; (· omega); (· have := HT.out _ h; omega))).trans HW.out.1
    have k1 := (hK.block (w.heap.size + 1) (by rw [HW.out.2.2.2.1]; omega) (fun h => by rcases List.mem_cons.1 h with h | h; (· omega); (· have := HT.out _ h; omega))).trans HW.out.2.1
    have hKw : Keep (w.heap.size :: (w.heap.size + 1) :: (w.heap.size + 2) :: T) w w3 := ((Keep.refl _ w).of_below HW.out.2.2.2.2 (Nat.le_refl _)).trans hK (fun b hb => .inl (List.mem_cons_of_mem _ (List.mem_cons_of_mem _ hb)))
    have hT2 : ∀ b ∈ T', b ∈ T ∨ w.heap.size ≤ b := fun b hb => (hT' b hb).imp id (fun h => by rw [HW.out.2.2.2.1] at h; omega)
    have hn : ∀ b ∈ T', b ≠ w.heap.size ∧ b ≠ w.heap.size + 1 := fun b hb => (hT' b hb).elim (fun h => by have := HT.out _ h; omega) (fun h => by rw [HW.out.2.2.2.1] at h; omega)
    have HK0 := Lib.hid k0
    have HK1 := Lib.hid k1
    have HKW := Lib.hid hKw
    have HT2 := Lib.hid (And.intro hT2 hn)
    have c0 := cellOf k0 0
    have c1 := cellOf k1 0
    have f0 := frozOf k0 0
    have f1 := frozOf k1 0
    simp at c0 c1
    clear k0 k1 hKw hT2 hn hK hbr hT'
    rcases hc with ⟨out, l, σ', t, hr, ht, rfl, hR, hI⟩ | ⟨σ', hr, rfl, hI⟩
    · have HI2 := Lib.hid hI
      have HRR : Hid (resOf cp L.ans (bl s) σ = (out, 0, σ')) := Lib.hid (by rw [HR.out, hr])
      have HTT := Lib.hid ht
      clear hr ht hR hI
      go_wp2_with fail
      refine leaves_cons (f := 19) (args := #[.pointer (some ⟨w.heap.size, 0, none⟩), .pointer (some ⟨w.heap.size + 1, 0, none⟩)]) (by simp) (by simp [go_sem]) ?_
      refine (catch_idle _ _ _).mono ?_
      rintro e u' w'' ⟨rfl, rfl, rfl⟩
      have HE : Hid (ExpPost L w T (resOf cp L.ans (bl s) σ) (.returned (.tuple #[.string t, .int .i64 0])) ((w3.setCell ⟨w.heap.size, 0, none⟩ (.string t)).setCell ⟨w.heap.size + 1, 0, none⟩ (.int .i64 0))) := Lib.hid (by
        rw [HRR.out]
        refine ⟨t, T', rfl, HTT.out, ((HKW.out.setCell ⟨w.heap.size, 0, none⟩ List.mem_cons_self _).setCell ⟨w.heap.size + 1, 0, none⟩ (List.mem_cons_of_mem _ List.mem_cons_self) _).weak (fun b hb => ?_), ?_, HT2.out.1⟩
        · simp only [List.mem_cons] at hb
          rcases hb with rfl | rfl | rfl | hb
          · exact .inr (Nat.le_refl _)
          · exact .inr (by omega)
          · exact .inr (by omega)
          · exact .inl hb
        · refine L.stab HI2.out (by rw [setCell_sz, setCell_sz]; exact Nat.le_refl _) (fun b hb => ?_)
          have hne : b ≠ w.heap.size ∧ b ≠ w.heap.size + 1 := hb.elim (fun h => by omega) (fun h => HT2.out.2 b h)
          rw [setCell_far _ _ _ _ hne.2, setCell_far _ _ _ _ hne.1])
      refine ⟨.tuple #[.string t, .int .i64 0], by simp [results, Try.results11, go_sem, c0, c1], HE.out⟩
    · have HI2 := Lib.hid hI
      have HRR : Hid (resOf cp L.ans (bl s) σ = ([], 2, σ')) := Lib.hid (by rw [HR.out, hr])
      clear hr hI
      go_wp2_with fail
      refine leaves_cons (f := 19) (args := #[.pointer (some ⟨w.heap.size, 0, none⟩), .pointer (some ⟨w.heap.size + 1, 0, none⟩)]) (by simp) (by simp [go_sem]) ?_
      refine (catch_panicking w.heap.size _ _ [] _ HK0.out HK1.out).mono ?_
      rintro e u' w'' ⟨rfl, rfl, rfl⟩
      have hBa : Below w3.heap.size w3 (w3.alloc (.cells #[] 47)) := (Below.refl _ _).alloc (Nat.le_refl _) _
      have HE : Hid (ExpPost L w T (resOf cp L.ans (bl s) σ) (.returned (.tuple #[.string ⟨#[]⟩, .int .i64 2])) (((w3.alloc (.cells #[] 47)).setCell ⟨w.heap.size, 0, none⟩ (.string ⟨#[]⟩)).setCell ⟨w.heap.size + 1, 0, none⟩ (.int .i64 2))) := Lib.hid (by
        rw [HRR.out]
        refine ⟨_, T', rfl, rfl, (((HKW.out.of_below hBa HKW.out.size).setCell ⟨w.heap.size, 0, none⟩ List.mem_cons_self _).setCell ⟨w.heap.size + 1, 0, none⟩ (List.mem_cons_of_mem _ List.mem_cons_self) _).weak (fun b hb => ?_), ?_, HT2.out.1⟩
        · simp only [List.mem_cons] at hb
          rcases hb with rfl | rfl | rfl | hb
          · exact .inr (Nat.le_refl _)
          · exact .inr (by omega)
          · exact .inr (by omega)
          · exact .inl hb
        · refine L.stab (inv_below HI2.out hBa (by have := HKW.out.size; omega)) (by rw [setCell_sz, setCell_sz]; exact Nat.le_refl _) (fun b hb => ?_)
          have hne : b ≠ w.heap.size ∧ b ≠ w.heap.size + 1 := hb.elim (fun h => by omega) (fun h => HT2.out.2 b h)
          rw [setCell_far _ _ _ _ hne.2, setCell_far _ _ _ _ hne.1])
      have a0 := cell_up hBa c0
      have a1 := cell_up hBa c1
      refine ⟨.tuple #[.string ⟨#[]⟩, .int .i64 2], by simp [results, Try.results11, go_sem, a0, a1], HE.out⟩
end Go.Proofs.Ytcahlfafadabaaa
