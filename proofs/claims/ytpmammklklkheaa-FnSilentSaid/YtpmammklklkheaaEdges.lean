/- Edges: a row of pairs of the call's own; the reference puts them into a graph. The condition: at most 100 edges of nodes below n <= 12. -/
import Derived.Test.YtpmammklklkheaaDraw
import Derived.Test.YtpmammklklkheaaBook
import Derived.Test.YtpmammklklkheaaAppend
namespace Go.Proofs.Ytpmammklklkheaa
open Go.RowKit
open BigFrame

/-- One edge: a row of two unlike nodes. -/
def Edge (w : World) (base n : Nat) (v e : Value) : Prop :=
  ∃ g a b : Nat, e = .slice (some ⟨g, 0, none⟩) 2 2 ∧ base ≤ g ∧ g < w.heap.size ∧ a < n ∧ b < n ∧ a ≠ b ∧ w.cell? ⟨g, 0, none⟩ = some (.int .i64 a) ∧ w.cell? ⟨g, 1, none⟩ = some (.int .i64 b) ∧ v.ownBlock ≠ some g
def Edges (w : World) (base n : Nat) (v : Value) (es : List Value) : Prop := OwnRows w base v es ∧ ∀ e ∈ es, Edge w base n v e
theorem Edge.ext {w w' : World} {base n : Nat} {v e : Value} (h : Edge w base n v e) (hx : Ext w w') : Edge w' base n v e := by
  obtain ⟨g, a, b, h1, h2, h3, h4, h5, h6, h7, h8, h9⟩ := h
  exact ⟨g, a, b, h1, h2, Nat.lt_of_lt_of_le h3 hx.size, h4, h5, h6, (hx.cell h3).trans h7, (hx.cell h3).trans h8, h9⟩
theorem Edges.ext {w w' : World} {base n : Nat} {v : Value} {es : List Value} (h : Edges w base n v es) (hx : Ext w w') : Edges w' base n v es :=
  ⟨h.1.ext hx, fun e he => (h.2 e he).ext hx⟩
theorem Edges.upd {w w' : World} {base n k : Nat} {v : Value} {es : List Value} (h : Edges w base n v es) (hk : k < base) (hu : Upd k w w') : Edges w' base n v es := by
  obtain ⟨⟨h1, h2⟩, h3⟩ := h
  refine ⟨⟨h1, ?_⟩, ?_⟩
  · rcases h2 with h2 | ⟨g, cap, cur, hv, hg, hh, r⟩
    · exact Or.inl h2
    · exact Or.inr ⟨g, cap, cur, hv, hg, (hu.block g (Array.getElem?_eq_some_iff.1 hh).1 (by omega)).trans hh, r⟩
  · intro e he
    obtain ⟨g, a, b, h1, h2, h3, h4, h5, h6, h7, h8, h9⟩ := h3 e he
    exact ⟨g, a, b, h1, h2, Nat.lt_of_lt_of_le h3 hu.size, h4, h5, h6, (hu.cell h3 (by omega)).trans h7, (hu.cell h3 (by omega)).trans h8, h9⟩
theorem Edges.lit (w : World) (n : Nat) : Edges (w.alloc (.cells #[] 23)) w.heap.size n (.slice (some ⟨w.heap.size, 0, none⟩) 0 0) [] :=
  ⟨World.ownsRow_lit w #[] 0 (Nat.le_refl _) (by unfold maxLen; omega) rfl, fun _ h => by cases h⟩
theorem Edges.mono {w : World} {base base' n : Nat} {v : Value} {es : List Value} (h : Edges w base n v es) (hb : base' ≤ base) : Edges w base' n v es := by
  obtain ⟨⟨h1, h2⟩, h3⟩ := h
  refine ⟨⟨h1, ?_⟩, fun e he => ?_⟩
  · rcases h2 with h2 | ⟨g, cap, cur, hv, hg, r⟩
    · exact Or.inl h2
    · exact Or.inr ⟨g, cap, cur, hv, Nat.le_trans hb hg, r⟩
  · obtain ⟨g, a, b, h1, h2, h3⟩ := h3 e he
    exact ⟨g, a, b, h1, Nat.le_trans hb h2, h3⟩
/-- What it is: nil, or a row whose elements are known. -/
theorem Edges.get {w : World} {base n : Nat} {v : Value} {es : List Value} (h : Edges w base n v es) :
    (v = .slice none 0 0 ∧ es = []) ∨ ∃ g c, v = .slice (some ⟨g, 0, none⟩) es.length c ∧ base ≤ g ∧ g < w.heap.size ∧ ∀ i, i < es.length → w.cell? ⟨g, i, none⟩ = some (es.getD i undef) := by
  obtain ⟨h0, -⟩ := h
  have h0' := h0
  obtain ⟨h1, ⟨hv, h2⟩ | ⟨g, cap, cur, hv, hg, hh, h3, h4, h5, h6⟩⟩ := h0
  · exact .inl ⟨hv, List.eq_nil_of_length_eq_zero h2⟩
  · subst hv
    refine .inr ⟨g, cap, rfl, hg, (Array.getElem?_eq_some_iff.1 hh).1, fun i hi => ?_⟩
    rw [World.ownsRow.cellAt h0' i (by omega)]
    simp [hi]
theorem OwnRows.block_lt {w : World} {base : Nat} {v : Value} {vs : List Value} (h : OwnRows w base v vs) : ∀ k, v.ownBlock = some k → base ≤ k ∧ k < w.heap.size := World.ownsRow.lt h
/-- One edge more, put behind by append. -/
theorem wpList_append_edge {ops : Array Oper} {rest : List Oper} {o : Oper} {a : Act} {Q : Exit → Act → World → Prop} {w : World} (hgd : o.guard = none) (s x : Operand)
    (ho : o.op = .call { callee := .builtin .append, args := #[s, x], argTypes := #[69, 69] })
    (base n : Nat) (v : Value) (es : List Value) (hs : a.eval s = v) (hown : Edges w base n v es) (g : Nat) (y : Value) (hy : y.oneCell' = true) (he : Edge w base n v y) (hx : a.eval x = .slice (some ⟨g, 0, none⟩) 1 1)
    (hc : w.cell? ⟨g, 0, none⟩ = some y) (hn : es.length ≤ 1048576) (hb : base ≤ w.heap.size)
    (h : ∀ v' w', Edges w' base n v' (es ++ [y]) → Below base w w' → wpList Try.prog ops Q rest (a.put o.dst v') w') : wpList Try.prog ops Q (o :: rest) a w := by
  obtain ⟨i0, hi, hz0, hz1, hz2⟩ := info_parts info_row
  refine wpList_append_lies w hgd s x 69 ho base 23 i0 (.slice none 0 0) 1 24 Try.underlying69 hi hz0 hz1 hz2 rfl (by decide) v es.length _ hs hown.1 ⟨g, 0, none⟩ 1 1 [y] hx rfl ?_ (fun u hu => by simp at hu; subst hu; exact hy) (by omega) (by unfold maxLen; omega) (by omega) hb _ rfl ?_
  · intro j u hu
    cases j with
    | zero => simp at hu; subst hu; exact hc
    | succ j => simp at hu
  · intro g' cap w' h1 h2 h3 _
    have hbel : Below base w w' := Below.grown (Below.refl _ _) h2 hb (fun k hk => (hown.1.block_lt k hk).1)
    refine h _ w' ⟨?_, ?_⟩ hbel
    · unfold OwnRows; simpa using h1
    · intro e he'
      have : Edge w base n v e := by
        rcases List.mem_append.1 he' with h4 | h4
        · exact hown.2 e h4
        · simp at h4; subst h4; exact he
      obtain ⟨ge, ea, eb, e1, e2, e3, e4, e5, e6, e7, e8, e9⟩ := this
      have hblk : w'.heap[ge]? = w.heap[ge]? := h2.block ge e3 (fun hh => e9 hh.symm)
      refine ⟨ge, ea, eb, e1, e2, Nat.lt_of_lt_of_le e3 hbel.size, e4, e5, e6, ?_, ?_, ?_⟩
      · rw [← e7]; simp only [World.cell?, hblk]
      · rw [← e8]; simp only [World.cell?, hblk]
      · show some g' ≠ some ge
        rcases h3 with h3 | h3
        · rw [← h3]; exact e9
        · intro hh; simp only [Option.some.injEq] at hh; omega
/-- A fresh pair. -/
theorem Edge.new {w : World} {base n : Nat} {v : Value} {es : List Value} (h : Edges w base n v es) (a b : Nat) (ha : a < n) (hb : b < n) (hab : a ≠ b) (hbase : base ≤ w.heap.size) (t : TypeId) :
    Edge (w.alloc (.cells #[.int .i64 a, .int .i64 b] t)) base n v (.slice (some ⟨w.heap.size, 0, none⟩) 2 2) := by
  have h3 := two_cells (World.alloc_heap_new w (.cells #[.int .i64 a, .int .i64 b] t))
  refine ⟨w.heap.size, a, b, rfl, hbase, by simp, ha, hb, hab, h3.1, h3.2, fun hh => ?_⟩
  have := (h.1.block_lt _ hh).2
  omega
end Go.Proofs.Ytpmammklklkheaa
