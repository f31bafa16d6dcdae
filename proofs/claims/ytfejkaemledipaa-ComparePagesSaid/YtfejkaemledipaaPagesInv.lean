/- Pages under way: a row of pages whose last one's marks still grow. -/
import Derived.Test.YtfejkaemledipaaOwn36
import Derived.Test.YtfejkaemledipaaEq36e
import Derived.Test.YtfejkaemledipaaAs36
namespace Go.Proofs.Ytfejkaemledipaa
open Go.RowKit

/-- A cell as it lies there. -/
def Rp.raw : Rp Value where
  sz := 1
  K := fun _ _ x cs => cs = [x] ∧ x.oneCell' = true
  len := fun h => by rw [h.1]; rfl
  one := fun h u hu => by rw [h.1] at hu; simp at hu; rw [hu]; exact h.2
  move := fun _ h => h
def rRaw : Rp (Int × Value) := Rp.pair (Rp.int .i64) Rp.raw

theorem rRaw_open {w : World} {L : List Nat} {x : Int × Value} {cs : List Value} (h : rRaw.K w L x cs) : cs = [.int .i64 x.1, x.2] ∧ x.2.oneCell' = true := by
  obtain ⟨_, _, rfl, rfl, rfl, h1⟩ := h
  exact ⟨rfl, h1⟩
theorem rRaw_mk (w : World) (L : List Nat) (x : Int × Value) (h : x.2.oneCell' = true) : rRaw.K w L x [.int .i64 x.1, x.2] := ⟨_, _, rfl, rfl, rfl, h⟩

/-- Marks put behind pages. -/
def addMark (out : List Page) (m : Mark) : List Page :=
  match out.getLast? with
  | none => [⟨m.page, [m]⟩]
  | some p => if p.number = m.page then out.dropLast ++ [⟨p.number, p.marks ++ [m]⟩] else out ++ [⟨m.page, [m]⟩]
def pagesOf (l : List Mark) : List Page := l.foldl addMark []
theorem pagesOf_snoc (l : List Mark) (m : Mark) : pagesOf (l ++ [m]) = addMark (pagesOf l) m := by simp [pagesOf]

theorem addMark_same {f : List Page} {p : Page} {m : Mark} (h : p.number = m.page) : addMark (f ++ [p]) m = f ++ [⟨p.number, p.marks ++ [m]⟩] := by
  simp [addMark, h]
theorem addMark_new {f : List Page} {p : Page} {m : Mark} (h : p.number ≠ m.page) : addMark (f ++ [p]) m = (f ++ [p]) ++ [⟨m.page, [m]⟩] := by
  simp [addMark, h]
theorem addMark_nil (m : Mark) : addMark [] m = [⟨m.page, [m]⟩] := rfl

/-- Front pages are read; the last one's marks are a row of the call's own. -/
def PagesInv (e : TypeId) (w : World) (base : Nat) (L : List Nat) (v : Value) (rows : List (Int × Value)) (front : List Page) (num : Int) (mv : Value) (ms : List Mark) : Prop :=
  OwnS rRaw e w base L v (rows ++ [(num, mv)]) ∧ rows.length = front.length ∧
    (∀ (i : Nat) (r : Int × Value) (p : Page), rows[i]? = some r → front[i]? = some p → r.1 = p.number ∧ Sl rMark w (blk mv ++ (blk v ++ L)) r.2 p.marks) ∧ OwnS rMark 45 w base (blk v ++ L) mv ms

theorem slice_one {A : Option Addr} {n c : Nat} : (Value.slice A n c).oneCell' = true := rfl
theorem OwnS.one {α : Type} {d : Rp α} {e : TypeId} {w : World} {base : Nat} {L : List Nat} {v : Value} {xs : List α} (h : OwnS d e w base L v xs) : v.oneCell' = true := by
  obtain ⟨A, c, rfl⟩ := h.val; rfl

/-- All is read. -/
theorem PagesInv.done {e : TypeId} {w : World} {base : Nat} {L : List Nat} {v mv : Value} {rows : List (Int × Value)} {front : List Page} {num : Int} {ms : List Mark} (h : PagesInv e w base L v rows front num mv ms) : OwnS rPage e w base L v (front ++ [⟨num, ms⟩]) := by
  obtain ⟨hO, hl, hf, hm⟩ := h
  obtain ⟨cells, ho, hL, hk⟩ := hO
  have hlen : (rows ++ [(num, mv)]).length = (front ++ [(⟨num, ms⟩ : Page)]).length := by simp [hl]
  rw [hlen] at ho
  refine ⟨cells, ho, hL, fun i p hi => ?_⟩
  have hsz : rPage.sz = rRaw.sz := rfl
  rw [hsz]
  rcases Nat.lt_or_ge i front.length with hlt | hge
  · rw [List.getElem?_append_left hlt] at hi
    have hr : rows[i]? = some rows[i] := List.getElem?_eq_getElem (by omega)
    obtain ⟨h1, h2⟩ := hf i _ p hr hi
    have hk' := hk i rows[i] (by rw [List.getElem?_append_left (by omega)]; exact hr)
    obtain ⟨he, _⟩ := rRaw_open hk'
    rw [he, h1]
    refine rPage_mk (h2.move fun b _ hn => ⟨?_, rfl⟩)
    simp only [List.mem_append, not_or] at hn ⊢
    exact ⟨hn.2.1, hn.2.2⟩
  · have : i = front.length := by
      rcases Nat.lt_or_ge front.length i with h | h
      · rw [List.getElem?_eq_none (by simp; omega)] at hi; cases hi
      · omega
    subst this
    rw [List.getElem?_append_right (Nat.le_refl _)] at hi
    simp at hi
    subst hi
    have hk' := hk front.length (num, mv) (by rw [← hl, List.getElem?_append_right (Nat.le_refl _)]; simp)
    obtain ⟨he, _⟩ := rRaw_open hk'
    rw [he]
    exact rPage_mk hm.sl

/-- It lies apart from what changes. -/
theorem PagesInv.below {e : TypeId} {w w' : World} {base : Nat} {L : List Nat} {v mv : Value} {rows : List (Int × Value)} {front : List Page} {num : Int} {ms : List Mark} (h : PagesInv e w base L v rows front num mv ms) (hb : Below w.heap.size w w') : PagesInv e w' base L v rows front num mv ms := by
  obtain ⟨hO, hl, hf, hm⟩ := h
  exact ⟨hO.below hb, hl, fun i r p h1 h2 => ⟨(hf i r p h1 h2).1, (hf i r p h1 h2).2.below hb⟩, hm.below hb⟩

theorem mem_blk {v : Value} {b : Nat} : b ∈ blk v ↔ v.ownBlock = some b := by
  unfold blk
  split
  · rename_i c hc; rw [hc]; simp; exact eq_comm
  · rename_i hc; rw [hc]; simp

theorem PagesInv.shape {e : TypeId} {w : World} {base : Nat} {L : List Nat} {v mv : Value} {rows : List (Int × Value)} {front : List Page} {num : Int} {ms : List Mark} (h : PagesInv e w base L v rows front num mv ms) :
    ∃ g c, v = .slice (some ⟨g, 0, none⟩) (rows.length + 1) c ∧ base ≤ g ∧ g < w.heap.size := by
  obtain ⟨hO, _⟩ := h
  obtain ⟨A, c, rfl⟩ := hO.val
  obtain ⟨g, rfl, h1, h2⟩ := hO.addr (by simp)
  exact ⟨g, c, by simp, h1, h2⟩
/-- The last page's cells, and its marks. -/
theorem PagesInv.cells {e : TypeId} {w : World} {base : Nat} {L : List Nat} {g n c : Nat} {mv : Value} {rows : List (Int × Value)} {front : List Page} {num : Int} {ms : List Mark} (h : PagesInv e w base L (.slice (some ⟨g, 0, none⟩) n c) rows front num mv ms) :
    w.cell? ⟨g, rows.length * 2, none⟩ = some (.int .i64 num) ∧ w.cell? ⟨g, rows.length * 2 + 1, none⟩ = some mv ∧ w.frozen? ⟨g, rows.length * 2 + 1, none⟩ = false ∧ OwnS rMark 45 w base (g :: L) mv ms := by
  obtain ⟨hO, _, _, hm⟩ := h
  obtain ⟨cs, hk, hc⟩ := hO.get (i := rows.length) (by simp)
  obtain ⟨rfl, _⟩ := rRaw_open hk
  have h0 := hc 0 _ rfl
  have h1 := hc 1 _ rfl
  simp at h0 h1
  exact ⟨h0, h1, hO.frozen, hm⟩

/-- The first page. -/
theorem PagesInv.first {e : TypeId} {w : World} {base : Nat} {L : List Nat} {v : Value} {num : Int} (h : OwnS rRaw e w base L v [(num, .slice none 0 0)]) : PagesInv e w base L v [] [] num (.slice none 0 0) [] :=
  ⟨h, rfl, fun i r p h _ => by simp at h, OwnS.nil _ _ _ _ _⟩

/-- Another page. -/
theorem PagesInv.next {e : TypeId} {w w1 : World} {base : Nat} {L : List Nat} {v v' mv : Value} {rows : List (Int × Value)} {front : List Page} {num pg : Int} {ms : List Mark} (h : PagesInv e w base L v rows front num mv ms)
    (hO : OwnS rRaw e w1 base L v' ((rows ++ [(num, mv)]) ++ [(pg, .slice none 0 0)])) (hg : w.grownBy w1 v.ownBlock) (hat : v'.ownBlock = v.ownBlock ∨ v'.ownBlock = some w.heap.size) :
    PagesInv e w1 base L v' (rows ++ [(num, mv)]) (front ++ [⟨num, ms⟩]) pg (.slice none 0 0) [] := by
  obtain ⟨_, hl, hf, hm⟩ := h
  have hmv : ∀ b, b < w.heap.size → b ∉ blk v ++ L → b ∉ blk (.slice none 0 0) ++ (blk v' ++ L) ∧ w1.heap[b]? = w.heap[b]? := by
    intro b hb hn
    simp only [List.mem_append, not_or, mem_blk] at hn ⊢
    refine ⟨⟨by simp [Value.ownBlock], ?_, hn.2⟩, hg.block b hb (Ne.symm hn.1)⟩
    rcases hat with h | h <;> rw [h]
    · exact hn.1
    · simp; omega
  refine ⟨hO, by simp [hl], fun i r p hr hp => ?_, OwnS.nil _ _ _ _ _⟩
  rcases Nat.lt_or_ge i rows.length with hlt | hge
  · rw [List.getElem?_append_left hlt] at hr
    rw [List.getElem?_append_left (by omega)] at hp
    obtain ⟨h1, h2⟩ := hf i r p hr hp
    refine ⟨h1, h2.move fun b hb hn => hmv b hb ?_⟩
    simp only [List.mem_append, not_or] at hn ⊢
    exact hn.2
  · have : i = rows.length := by
      rcases Nat.lt_or_ge rows.length i with h | h
      · rw [List.getElem?_eq_none (by simp; omega)] at hr; cases hr
      · omega
    subst this
    rw [List.getElem?_append_right (Nat.le_refl _)] at hr
    rw [hl, List.getElem?_append_right (Nat.le_refl _)] at hp
    simp at hr hp
    subst hr hp
    exact ⟨rfl, hm.sl.move hmv⟩

/-- One more mark on the last page. -/
theorem PagesInv.mark {e : TypeId} {w w1 : World} {base : Nat} {L : List Nat} {g n c : Nat} {mv mv' : Value} {rows : List (Int × Value)} {front : List Page} {num : Int} {ms ms' : List Mark}
    (h : PagesInv e w base L (.slice (some ⟨g, 0, none⟩) n c) rows front num mv ms) (hO : OwnS rMark 45 w1 base (g :: L) mv' ms') (hg : w.grownBy w1 mv.ownBlock) (hat : mv'.ownBlock = mv.ownBlock ∨ mv'.ownBlock = some w.heap.size) :
    PagesInv e (w1.setCell ⟨g, rows.length * 2 + 1, none⟩ mv') base L (.slice (some ⟨g, 0, none⟩) n c) rows front num mv' ms' := by
  obtain ⟨hR, hl, hf, hm⟩ := h
  have hgm : mv.ownBlock ≠ some g := by
    obtain ⟨_, _, hL, _⟩ := hm
    exact fun e => hL g e (by simp [blk, Value.ownBlock])
  have hR1 : OwnS rRaw e w1 base L (.slice (some ⟨g, 0, none⟩) n c) (rows ++ [(num, mv)]) := by
    obtain ⟨cells, ho, hL, hk⟩ := hR
    refine ⟨cells, own_keep ho fun b hb => hg.block b (own_block ho hb).2 (by rw [← hb]; exact fun e => hgm (by rw [← e]; rfl)), hL, fun i x hi => ?_⟩
    obtain ⟨h1, h2⟩ := rRaw_open (hk i x hi)
    rw [h1]; exact rRaw_mk _ _ _ h2
  have hR2 := hR1.setCell (i := rows.length) (j := 1) (by simp) (by decide) mv' (num, mv') (fun cs hk => by
    obtain ⟨h1, _⟩ := rRaw_open hk
    simp at h1
    rw [h1]
    exact rRaw_mk _ _ (num, mv') hO.one)
  have e1 : (rows ++ [(num, mv)]).set rows.length (num, mv') = rows ++ [(num, mv')] := by
    rw [List.set_append_right _ _ (Nat.le_refl _)]; simp
  rw [e1] at hR2
  refine ⟨hR2, hl, fun i r p hr hp => ⟨(hf i r p hr hp).1, (hf i r p hr hp).2.move fun b hb hn => ?_⟩, hO.move fun b hb hn => ⟨hn, ?_⟩⟩
  · simp only [List.mem_append, not_or, mem_blk] at hn ⊢
    refine ⟨⟨?_, hn.2⟩, ?_⟩
    · rcases hat with h | h <;> rw [h]
      · exact hn.1
      · simp; omega
    · rw [setCell_other _ _ _ _ _ (fun e => hn.2.1 (by rw [e]; rfl))]
      exact hg.block b hb (Ne.symm hn.1)
  · rw [setCell_other _ _ _ _ _ (fun e => hn (by rw [e]; exact List.mem_cons_self))]
end Go.Proofs.Ytfejkaemledipaa
