/- What the walks of this seat rest on, one part: plain facts, and contracts of the functions that they reach. Each states its own condition. -/
import Derived.Test.YtkmfmhckpfomeaaGreatDoorB21
import Derived.Test.YtkmfmhckpfomeaaGreatDoorB6
set_option linter.all false
set_option linter.unusedSimpArgs false
set_option linter.unusedVariables false
/- Edges by name: a row of pairs of the call's own, each known; the reference puts them into a graph that is told. The condition: at most 200 edges of nodes below n <= 12. -/
namespace Go.Proofs.YtkmfmhckpfomeaaGreatDoor
open Go.RowKit
open BigFrame

def orAt (g : List Nat) (a b : Nat) : List Nat := g.set a (bor (g.getD a 0) (2 ^ b))
def addE (g : List Nat) (p : Nat × Nat) : List Nat := orAt (orAt g p.1 p.2) p.2 p.1
def edgesN (n : Nat) (ps : List (Nat × Nat)) : List Nat := ps.foldl addE (List.replicate n 0)
def ofN (g : List Nat) : List Int := g.map fun x => ((x : Nat) : Int)
theorem ofN_length (g : List Nat) : (ofN g).length = g.length := by simp [ofN]
theorem ofN_get (g : List Nat) (i : Nat) : (ofN g).getD i 0 = ((g.getD i 0 : Nat) : Int) := by
  unfold ofN
  rw [List.getD_eq_getElem?_getD, List.getD_eq_getElem?_getD, List.getElem?_map]
  cases g[i]? <;> rfl
theorem ofN_set (g : List Nat) (a x : Nat) : ofN (g.set a x) = (ofN g).set a ((x : Nat) : Int) := by
  unfold ofN
  rw [List.map_set]
theorem orAt_length (g : List Nat) (a b : Nat) : (orAt g a b).length = g.length := by simp [orAt]
theorem addE_length (g : List Nat) (p : Nat × Nat) : (addE g p).length = g.length := by simp [addE, orAt_length]
/-- All rows of a list are sets of at most 12 nodes. -/
def Low (g : List Nat) : Prop := ∀ i, g.getD i 0 ≤ 4095
theorem Low.put {g : List Nat} (h : Low g) (a : Nat) {b : Nat} (hb : b < 12) : Low (orAt g a b) := fun i => by
  have hp : 2 ^ b < 2 ^ 12 := Nat.pow_lt_pow_right (by omega) hb
  have h1 := h a
  have h2 := h i
  unfold orAt
  rw [List.getD_eq_getElem?_getD, List.getElem?_set]
  rw [List.getD_eq_getElem?_getD] at h2
  split
  · split
    · have := bor_lt (x := g.getD a 0) (y := 2 ^ b) (n := 12) (by omega) hp
      show bor _ _ ≤ 4095
      omega
    · show 0 ≤ 4095
      omega
  · exact h2
theorem Low.rep (n : Nat) : Low (List.replicate n 0) := fun i => by
  rw [List.getD_eq_getElem?_getD, List.getElem?_replicate]
  split <;> simp
/-- One edge, by name. -/
def EdgeP (w : World) (base n : Nat) (v e : Value) (p : Nat × Nat) : Prop :=
  ∃ g : Nat, e = .slice (some ⟨g, 0, none⟩) 2 2 ∧ base ≤ g ∧ g < w.heap.size ∧ p.1 < n ∧ p.2 < n ∧ p.1 ≠ p.2 ∧ w.cell? ⟨g, 0, none⟩ = some (.int .i64 p.1) ∧ w.cell? ⟨g, 1, none⟩ = some (.int .i64 p.2) ∧ v.ownBlock ≠ some g
def EdgesP (w : World) (base n : Nat) (v : Value) (es : List Value) (ps : List (Nat × Nat)) : Prop :=
  OwnRows w base v es ∧ es.length = ps.length ∧ ∀ i, i < es.length → EdgeP w base n v (es.getD i undef) (ps.getD i (0, 0))
theorem EdgeP.ext {w w' : World} {base n : Nat} {v e : Value} {p : Nat × Nat} (h : EdgeP w base n v e p) (hx : Ext w w') : EdgeP w' base n v e p := by
  obtain ⟨g, h1, h2, h3, h4, h5, h6, h7, h8, h9⟩ := h
  exact ⟨g, h1, h2, Nat.lt_of_lt_of_le h3 hx.size, h4, h5, h6, (hx.cell h3).trans h7, (hx.cell h3).trans h8, h9⟩
theorem EdgesP.ext {w w' : World} {base n : Nat} {v : Value} {es : List Value} {ps : List (Nat × Nat)} (h : EdgesP w base n v es ps) (hx : Ext w w') : EdgesP w' base n v es ps :=
  ⟨h.1.ext hx, h.2.1, fun i hi => (h.2.2 i hi).ext hx⟩
theorem EdgesP.lit (w : World) (n : Nat) : EdgesP (w.alloc (.cells #[] 29)) w.heap.size n (.slice (some ⟨w.heap.size, 0, none⟩) 0 0) [] [] :=
  ⟨World.ownsRow_lit w #[] 0 (Nat.le_refl _) (by unfold maxLen; omega) rfl, rfl, fun _ h => absurd h (Nat.not_lt_zero _)⟩
theorem EdgesP.get {w : World} {base n : Nat} {v : Value} {es : List Value} {ps : List (Nat × Nat)} (h : EdgesP w base n v es ps) :
    (v = .slice none 0 0 ∧ es = []) ∨ ∃ g c, v = .slice (some ⟨g, 0, none⟩) es.length c ∧ base ≤ g ∧ g < w.heap.size ∧ ∀ i, i < es.length → w.cell? ⟨g, i, none⟩ = some (es.getD i undef) := by
  obtain ⟨h0, -⟩ := h
  have h0' := h0
  obtain ⟨h1, ⟨hv, h2⟩ | ⟨g, cap, cur, hv, hg, hh, h3, h4, h5, h6⟩⟩ := h0
  · exact .inl ⟨hv, List.eq_nil_of_length_eq_zero h2⟩
  · subst hv
    refine .inr ⟨g, cap, rfl, hg, (Array.getElem?_eq_some_iff.1 hh).1, fun i hi => ?_⟩
    rw [World.ownsRow.cellAt h0' i (by omega)]
    simp [hi]
/-- One edge more, put behind by append. -/
theorem wpList_append_edgeP {ops : Array Oper} {rest : List Oper} {o : Oper} {a : Act} {Q : Exit → Act → World → Prop} {w : World} (hgd : o.guard = none) (s x : Operand)
    (ho : o.op = .call { callee := .builtin .append, args := #[s, x], argTypes := #[70, 70] })
    (base n : Nat) (v : Value) (es : List Value) (ps : List (Nat × Nat)) (p : Nat × Nat) (hs : a.eval s = v) (hown : EdgesP w base n v es ps) (g : Nat) (y : Value) (hy : y.oneCell' = true) (he : EdgeP w base n v y p) (hx : a.eval x = .slice (some ⟨g, 0, none⟩) 1 1)
    (hc : w.cell? ⟨g, 0, none⟩ = some y) (hn : es.length ≤ 1048576) (hb : base ≤ w.heap.size)
    (h : ∀ v' w', EdgesP w' base n v' (es ++ [y]) (ps ++ [p]) → Below base w w' → wpList Tryz.prog ops Q rest (a.put o.dst v') w') : wpList Tryz.prog ops Q (o :: rest) a w := by
  obtain ⟨i0, hi, hz0, hz1, hz2⟩ := info_parts info_row
  refine wpList_append_lies w hgd s x 70 ho base 29 i0 (.slice none 0 0) 1 24 Tryz.underlying70 hi hz0 hz1 hz2 rfl (by decide) v es.length _ hs hown.1 ⟨g, 0, none⟩ 1 1 [y] hx rfl ?_ (fun u hu => by simp at hu; subst hu; exact hy) (by omega) (by unfold maxLen; omega) (by omega) hb _ rfl ?_
  · intro j u hu
    cases j with
    | zero => simp at hu; subst hu; exact hc
    | succ j => simp at hu
  · intro g' cap w' h1 h2 h3 _
    have hbel : Below base w w' := Below.grown (Below.refl _ _) h2 hb (fun k hk => (hown.1.block_lt k hk).1)
    refine h _ w' ⟨?_, by simp [hown.2.1], ?_⟩ hbel
    · unfold OwnRows; simpa using h1
    · intro i hi
      have hd : EdgeP w base n v ((es ++ [y]).getD i undef) ((ps ++ [p]).getD i (0, 0)) := by
        by_cases hlt : i < es.length
        · have := hown.2.2 i hlt
          rw [List.getD_eq_getElem?_getD, List.getD_eq_getElem?_getD] at this ⊢
          rw [List.getElem?_append_left hlt, List.getElem?_append_left (by rw [← hown.2.1]; exact hlt)]
          exact this
        · rw [List.length_append] at hi
          obtain rfl : i = es.length := by simp at hi; omega
          rw [List.getD_eq_getElem?_getD, List.getD_eq_getElem?_getD, List.getElem?_append_right (Nat.le_refl _), Nat.sub_self]
          rw [show es.length = ps.length from hown.2.1, List.getElem?_append_right (Nat.le_refl _), Nat.sub_self]
          exact he
      obtain ⟨ge, e1, e2, e3, e4, e5, e6, e7, e8, e9⟩ := hd
      have hblk : w'.heap[ge]? = w.heap[ge]? := h2.block ge e3 (fun hh => e9 hh.symm)
      refine ⟨ge, e1, e2, Nat.lt_of_lt_of_le e3 hbel.size, e4, e5, e6, ?_, ?_, ?_⟩
      · rw [← e7]; simp only [World.cell?, hblk]
      · rw [← e8]; simp only [World.cell?, hblk]
      · show some g' ≠ some ge
        rcases h3 with h3 | h3
        · rw [← h3]; exact e9
        · intro hh; simp only [Option.some.injEq] at hh; omega
theorem EdgeP.new {w : World} {base n : Nat} {v : Value} {es : List Value} {ps : List (Nat × Nat)} (h : EdgesP w base n v es ps) (a b : Nat) (ha : a < n) (hb : b < n) (hab : a ≠ b) (hbase : base ≤ w.heap.size) (t : TypeId) :
    EdgeP (w.alloc (.cells #[.int .i64 a, .int .i64 b] t)) base n v (.slice (some ⟨w.heap.size, 0, none⟩) 2 2) (a, b) := by
  have h3 := two_cells (World.alloc_heap_new w (.cells #[.int .i64 a, .int .i64 b] t))
  refine ⟨w.heap.size, rfl, hbase, by simp, ha, hb, hab, h3.1, h3.2, fun hh => ?_⟩
  have := (h.1.block_lt _ hh).2
  omega

set_option maxRecDepth 100000 in
set_option maxHeartbeats 4000000 in
theorem graphOfP_c (base n : Nat) (v : Value) (es : List Value) (ps : List (Nat × Nat)) (w : World) (hE : EdgesP w base n v es ps) (hn1 : 1 ≤ n) (hn : n ≤ 12) (hl : es.length ≤ 200) :
    Calls Tryz.prog 46 #[.int .i64 n, v] w fun e w' => ∃ (g c : Nat), e = .returned (.tuple #[.slice (some ⟨g, 0, none⟩) n c, .bool true]) ∧ Own w' w.heap.size (.slice (some ⟨g, 0, none⟩) n c) (ofN (edgesN n ps)) ∧ Ext w w' := by
  obtain ⟨i0, hi, hz0, hz1, hz2⟩ := info_parts info_int
  have hin : inB 1 (n : Int) 12 = true := inB_iff.2 ⟨by omega, by omega⟩
  have HE := Lib.hid hE
  have hpl := hE.2.1
  obtain ⟨a, lc, hv⟩ : ∃ a lc, v = .slice a es.length lc := by
    rcases hE.get with ⟨h1, h2⟩ | ⟨g, c, h1, -⟩
    · exact ⟨none, 0, by rw [h1, h2]; rfl⟩
    · exact ⟨_, c, h1⟩
  subst hv
  obtain ⟨L, hL⟩ : ∃ L, L = es.length := ⟨_, rfl⟩
  rw [← hL] at hl hpl
  have HL := Lib.hid hL; have HPL := Lib.hid hpl
  have HE' : Hid (EdgesP w base n (.slice a L lc) es ps) := by rw [hL]; exact hE
  rw [← hL]
  clear hE hL HE hpl
  go_enter Tryz.func46, Tryz.ntmps46
  go_wp2_with (first
    | (go_at_call 37; refine (l6In_c _ _ _ _).mono ?_; rintro e w' ⟨rfl, rfl⟩)
    | (at_make; refine wpList_make_full _ rfl _ _ 29 rfl w.heap.size 3 i0 (.int .i64 0) 1 Tryz.underlying29 hi hz0 hz1 _ _ _ _ n rfl rfl rfl rfl (by rw [hz2]; omega) (by unfold maxLen; omega) (Nat.le_refl _) ?_; intro w1 hown hgr))
  have hrow : Own w1 w.heap.size (.slice (some ⟨w.heap.size, 0, none⟩) n n) (ofN (List.replicate n 0)) := by
    have := hown
    simp only [Value.cells, Nat.mul_one, toList_madeCells_one] at this
    unfold ofN Own; simpa using this
  have hx1 : Ext w w1 := (Ext.refl w).grown hgr (fun _ h => by cases h)
  have HR := Lib.hid hrow; have HX := Lib.hid hx1
  clear hown hgr hi hz0 hz1 hz2 hrow hx1
  go_loopw [7] (fun i wr => ∃ (k : Nat) (gs : List Nat), k ≤ L ∧ i = .int .i64 k ∧ Hid (gs = (ps.take k).foldl addE (List.replicate n 0)) ∧ Hid (gs.length = n) ∧ Hid (Low gs) ∧ Hid (Own wr w.heap.size (.slice (some ⟨w.heap.size, 0, none⟩) n n) (ofN gs)) ∧ Hid (Ext w wr)) (fun i _ => L - (intOf i).toNat)
  case atStart => exact ⟨0, List.replicate n 0, Nat.zero_le _, rfl, rfl, by unfold Hid; simp, Low.rep n, HR, HX⟩
  case round =>
    clear HR HX
    obtain ⟨k, gs, hk, rfl, HGS, HGL, HLO, HR, HX⟩ := hrel
    by_cases hlt : k < L
    · obtain ⟨bv, rfl, hbv, hcv⟩ : ∃ bv, a = some ⟨bv, 0, none⟩ ∧ bv < w.heap.size ∧ w.cell? ⟨bv, k, none⟩ = some (es.getD k undef) := by
        rcases HE'.out.get with ⟨h1, h2⟩ | ⟨g, c, h1, h2, h3, h4⟩
        · rw [HL.out, h2] at hlt; cases hlt
        · simp only [Value.slice.injEq] at h1
          exact ⟨g, h1.1, h3, h4 k (by rw [← HL.out]; exact hlt)⟩
      obtain ⟨p, hp⟩ : ∃ p, p = ps.getD k (0, 0) := ⟨_, rfl⟩
      have hedge := HE'.out.2.2 k (by rw [← HL.out]; exact hlt)
      rw [← hp] at hedge
      have HNX : Hid ((ps.take (k + 1)).foldl addE (List.replicate n 0) = addE gs p) := by
        unfold Hid
        rw [List.take_add_one, List.foldl_append, HGS.out]
        have hkp : k < ps.length := by rw [← HPL.out]; exact hlt
        rw [hp, List.getD_eq_getElem?_getD, List.getElem?_eq_getElem hkp]
        rfl
      obtain ⟨x, y⟩ := p
      obtain ⟨ge, e1, -, e3, e4, e5, e6, e7, e8, -⟩ := hedge
      simp only at e4 e5 e6 e7 e8
      rw [e1] at hcv
      have c1 := (HX.out.cell hbv).trans hcv
      have c2 := (HX.out.cell e3).trans e7
      have c3 := (HX.out.cell e3).trans e8
      have hne : ((x : Int) == (y : Int)) = false := by simp; omega
      obtain ⟨n1, hn1'⟩ : ∃ n1 : Nat, (n : Int) - 1 = (n1 : Int) := ⟨n - 1, by omega⟩
      have i1 : inB 0 (x : Int) (n1 : Int) = true := inB_iff.2 ⟨by omega, by omega⟩
      have i2 : inB 0 (y : Int) (n1 : Int) = true := inB_iff.2 ⟨by omega, by omega⟩
      obtain ⟨px, hpx, hpx1, hpx2, hpx3⟩ := pow_var x (by omega)
      obtain ⟨py, hpy, hpy1, hpy2, hpy3⟩ := pow_var y (by omega)
      have hpx4 : px ≤ 2048 := by rw [← hpx]; exact (Nat.pow_le_pow_right (by omega) (by omega) : 2 ^ x ≤ 2 ^ 11)
      have hpy4 : py ≤ 2048 := by rw [← hpy]; exact (Nat.pow_le_pow_right (by omega) (by omega) : 2 ^ y ≤ 2 ^ 11)
      have ex : min x 64 = x := by omega
      have ey : min y 64 = y := by omega
      obtain ⟨-, -, -, hbr, hcl, hfr⟩ := HR.out.at
      have c4 := hcl x (by omega)
      have f4 := hfr x
      rw [ofN_get] at c4
      have l1 := HLO.out x
      have b1 := bits_or (gs.getD x 0) py (by omega) (by omega)
      have HO : Hid (∀ z : Nat, Own (wr.setCell ⟨w.heap.size, x, none⟩ (.int .i64 (z : Int))) w.heap.size (.slice (some ⟨w.heap.size, 0, none⟩) n n) (ofN (gs.set x z))) := fun z => by rw [ofN_set]; exact HR.out.set x z
      have HXS := Lib.hid fun (z : Value) => HX.out.setCell (p := ⟨w.heap.size, x, none⟩) (Nat.le_refl _) z
      have HNE := Lib.hid e6
      have HOA : Hid (orAt gs x y = gs.set x (bor (gs.getD x 0) py)) := by unfold orAt Hid; rw [hpy]
      have HLO2 : Hid (Low (orAt gs x y)) := HLO.out.put x (by omega)
      have HGL2 : Hid ((orAt gs x y).length = n) := by unfold Hid; rw [orAt_length]; exact HGL.out
      clear hcl hfr e1 hpy hcv e7 e8 e6
      generalize bor (gs.getD x 0) py = z at b1 HOA
      generalize gs.getD x 0 = gx at c4 b1 l1
      go_wp2_with (go_at_call 37; refine (l6In_c _ _ _ _).mono ?_; rintro e w' ⟨rfl, rfl⟩)
      go_region
      obtain ⟨W2, hW2⟩ : ∃ W2, W2 = (wr.setCell { block := w.heap.size, off := x } (Value.int IntKind.i64 z)).drew := ⟨_, rfl⟩
      rw [← hW2]
      have HO2 : Hid (Own W2 w.heap.size (.slice (some ⟨w.heap.size, 0, none⟩) n n) (ofN (orAt gs x y))) := by rw [hW2, HOA.out]; exact (HO.out z).drew
      have HX2 : Hid (Ext w W2) := by rw [hW2]; exact (HXS.out _).drew
      clear hW2 HO HXS f4 c4 c1 c2 c3 hbr HGL HR HX HLO HOA b1 l1
      have HAD : Hid (addE gs (x, y) = orAt (orAt gs x y) y x) := rfl
      generalize orAt gs x y = gs2 at HO2 HGL2 HLO2 HAD
      obtain ⟨-, -, -, hbr, hcl, hfr⟩ := HO2.out.at
      have c5 := hcl y (by omega)
      have f6 := hfr y
      rw [ofN_get] at c5
      have l2 := HLO2.out y
      have b2 := bits_or (gs2.getD y 0) px (by omega) (by omega)
      have HO3 : Hid (∀ z : Nat, Own (W2.setCell ⟨w.heap.size, y, none⟩ (.int .i64 (z : Int))) w.heap.size (.slice (some ⟨w.heap.size, 0, none⟩) n n) (ofN (gs2.set y z))) := fun z => by rw [ofN_set]; exact HO2.out.set y z
      have HXS := Lib.hid fun (z : Value) => HX2.out.setCell (p := ⟨w.heap.size, y, none⟩) (Nat.le_refl _) z
      have HOA : Hid (orAt gs2 y x = gs2.set y (bor (gs2.getD y 0) px)) := by unfold orAt Hid; rw [hpx]
      have HLO3 : Hid (Low (orAt gs2 y x)) := HLO2.out.put y (by omega)
      clear hcl hfr hpx
      generalize bor (gs2.getD y 0) px = z2 at b2 HOA
      generalize gs2.getD y 0 = gy at c5 b2 l2
      go_wp2
      go_region
      go_wp2
      go_roundw
      case rel => exact ⟨k + 1, orAt gs2 y x, by omega, by go_num, by unfold Hid; rw [HNX.out, HAD.out], by unfold Hid; rw [orAt_length]; exact HGL2.out, HLO3.out, by unfold Hid; rw [HOA.out]; exact (HO3.out z2).drew, (HXS.out _).drew⟩
      case measure => simp [intOf]; omega
    · have HF : Hid (gs = edgesN n ps) := by unfold Hid edgesN; rw [HGS.out, List.take_of_length_le (by rw [← HPL.out]; omega)]
      go_wp2
      go_ret2
      exact ⟨_, _, rfl, by rw [← HF.out]; exact HR.out, HX.out⟩
end Go.Proofs.YtkmfmhckpfomeaaGreatDoor

/- Graphs of a kind, told: the reference's edges and the program's make the same rows: plain. No condition. -/
namespace Go.Proofs.YtkmfmhckpfomeaaGreatDoor

def sEdge (K n i k : Nat) : Bool := (K == 3) || (K == 2 && i == 0) || (decide (K < 2) && k == i + 1) || (K == 1 && i == 0 && k + 1 == n)
def rowPs (K n i : Nat) : Nat → List (Nat × Nat)
  | 0 => []
  | k + 1 => if decide (i < k) && sEdge K n i k then rowPs K n i k ++ [(i, k)] else rowPs K n i k
theorem rowPs_nil {K n i : Nat} : ∀ k, k ≤ i + 1 → rowPs K n i k = []
  | 0, _ => rfl
  | k + 1, h => by
    unfold rowPs
    rw [decide_eq_false (by omega), Bool.false_and, if_neg (by decide)]
    exact rowPs_nil k (by omega)
theorem rowPs_add {K n i k : Nat} (h : i < k) (hs : sEdge K n i k = true) : rowPs K n i (k + 1) = rowPs K n i k ++ [(i, k)] := by
  show (if decide (i < k) && sEdge K n i k then _ else _) = _
  rw [decide_eq_true h, hs]
  rfl
theorem rowPs_skip {K n i k : Nat} (hs : sEdge K n i k = false) : rowPs K n i (k + 1) = rowPs K n i k := by
  show (if decide (i < k) && sEdge K n i k then _ else _) = _
  rw [hs, Bool.and_false]
  rfl
def allPs (K n : Nat) : Nat → List (Nat × Nat)
  | 0 => []
  | i + 1 => allPs K n i ++ rowPs K n i n
def iRow (K n i : Nat) : Nat → List (Nat × Nat)
  | 0 => []
  | k + 1 => if sEdge K n k i then iRow K n i k ++ [(i, k)] else iRow K n i k
theorem iRow_add {K n i k : Nat} (hs : sEdge K n k i = true) : iRow K n i (k + 1) = iRow K n i k ++ [(i, k)] := by
  show (if sEdge K n k i then _ else _) = _
  rw [hs]; rfl
theorem iRow_skip {K n i k : Nat} (hs : sEdge K n k i = false) : iRow K n i (k + 1) = iRow K n i k := by
  show (if sEdge K n k i then _ else _) = _
  rw [hs]; rfl
def allI (K n : Nat) : Nat → List (Nat × Nat)
  | 0 => []
  | i + 1 => allI K n i ++ iRow K n i i
theorem kinds_same : ∀ K, K < 4 → ∀ n, n < 13 → edgesN n (allI K n n) = edgesN n (allPs K n n) := by decide +kernel
def kindGr (K n : Nat) : List Int := ofN (edgesN n (allPs K n n))
theorem kindGr_length (K n : Nat) : (kindGr K n).length = n := by
  unfold kindGr edgesN
  rw [ofN_length]
  generalize allPs K n n = ps
  have h : ∀ (ps : List (Nat × Nat)) (g : List Nat), (ps.foldl addE g).length = g.length := by
    intro ps
    induction ps with
    | nil => intro g; rfl
    | cons p ps ih => intro g; rw [List.foldl_cons, ih, addE_length]
  rw [h, List.length_replicate]
theorem kinds_graph : ∀ K, K < 4 → ∀ n, n < 12 → graphIn (kindGr K (n + 1)) = true := by decide +kernel
theorem kind_isGraph {K n : Nat} (hK : K < 4) (h1 : 1 ≤ n) (hn : n ≤ 12) : IsGraph (kindGr K n) := by
  have := kinds_graph K hK (n - 1) (by omega)
  rw [show n - 1 + 1 = n from by omega] at this
  exact graphIn_iff.1 this
def kindOk (k n : Int) : Bool := inB 0 k 3 && inB 1 n 12 && !(decide (k = 1) && decide (n < 3))
def graphKind (k n : Int) : List Int × Bool := if kindOk k n then (kindGr k.toNat n.toNat, true) else ([], false)
theorem kindOk_iff {k n : Int} : kindOk k n = true ↔ ∃ K N : Nat, k = K ∧ n = N ∧ K < 4 ∧ 1 ≤ N ∧ N ≤ 12 ∧ (K = 1 → 3 ≤ N) := by
  unfold kindOk
  rw [Bool.and_eq_true, Bool.and_eq_true, inB_iff, inB_iff, Bool.not_eq_true', Bool.and_eq_false_iff, decide_eq_false_iff_not, decide_eq_false_iff_not]
  constructor
  · rintro ⟨⟨h1, h2⟩, h3⟩
    exact ⟨k.toNat, n.toNat, by omega, by omega, by omega, by omega, by omega, by omega⟩
  · rintro ⟨K, N, rfl, rfl, h1, h2, h3, h4⟩
    refine ⟨⟨by omega, by omega⟩, ?_⟩
    by_cases h : K = 1
    · exact .inr (by have := h4 h; omega)
    · exact .inl (by omega)
theorem beq_cast (a b : Nat) : ((a : Int) == (b : Int)) = (a == b) := by
  rw [Bool.eq_iff_iff, beq_iff_eq, beq_iff_eq]
  omega
end Go.Proofs.YtkmfmhckpfomeaaGreatDoor

/- The program's graph of a kind, told; two nodes become neighbours. The condition: at most 12 nodes. -/
namespace Go.Proofs.YtkmfmhckpfomeaaGreatDoor
open Go.RowKit
open BigFrame

set_option maxRecDepth 100000 in
set_option maxHeartbeats 4000000 in
theorem join_c (base b c n : Nat) (gs : List Nat) (x y : Nat) (w : World) (ho : Own w base (.slice (some ⟨b, 0, none⟩) n c) (ofN gs)) (hlow : Low gs) (hx : x < n) (hy : y < n) (hn : n ≤ 12) :
    Calls Tryz.prog 38 #[.slice (some ⟨b, 0, none⟩) n c, .int .i64 x, .int .i64 y] w fun e w' => e = .returned (.tuple #[]) ∧ Own w' base (.slice (some ⟨b, 0, none⟩) n c) (ofN (addE gs (x, y))) ∧ Below base w w' := by
  obtain ⟨px, hpx, hpx1, hpx2, hpx3⟩ := pow_var x (by omega)
  obtain ⟨py, hpy, hpy1, hpy2, hpy3⟩ := pow_var y (by omega)
  have hpx4 : px ≤ 2048 := by rw [← hpx]; exact (Nat.pow_le_pow_right (by omega) (by omega) : 2 ^ x ≤ 2 ^ 11)
  have hpy4 : py ≤ 2048 := by rw [← hpy]; exact (Nat.pow_le_pow_right (by omega) (by omega) : 2 ^ y ≤ 2 ^ 11)
  have ex : min x 64 = x := by omega
  have ey : min y 64 = y := by omega
  obtain ⟨-, -, hbb, -, hcl, hfr⟩ := ho.at
  have c4 := hcl x hx
  have f4 := hfr x
  rw [ofN_get] at c4
  have l1 := hlow x
  have b1 := bits_or (gs.getD x 0) py (by omega) (by omega)
  have HO : Hid (∀ z : Nat, Own (w.setCell ⟨b, x, none⟩ (.int .i64 (z : Int))) base (.slice (some ⟨b, 0, none⟩) n c) (ofN (gs.set x z))) := fun z => by rw [ofN_set]; exact ho.set x z
  have HXS := Lib.hid fun (z : Value) => (Below.refl base w).setCell (p := ⟨b, x, none⟩) hbb z
  have HOA : Hid (orAt gs x y = gs.set x (bor (gs.getD x 0) py)) := by unfold orAt Hid; rw [hpy]
  have HLO2 : Hid (Low (orAt gs x y)) := hlow.put x (by omega)
  clear hcl hfr hpy ho hlow
  generalize bor (gs.getD x 0) py = z at b1 HOA
  generalize gs.getD x 0 = gx at c4 b1 l1
  go_enter Tryz.func38, Tryz.ntmps38
  go_wp2
  go_region
  obtain ⟨W2, hW2⟩ : ∃ W2, W2 = (w.setCell { block := b, off := x } (Value.int IntKind.i64 z)).drew := ⟨_, rfl⟩
  rw [← hW2]
  have HO2 : Hid (Own W2 base (.slice (some ⟨b, 0, none⟩) n c) (ofN (orAt gs x y))) := by rw [hW2, HOA.out]; exact (HO.out z).drew
  have HX2 : Hid (Below base w W2) := by rw [hW2]; exact Below.drew (HXS.out _)
  clear hW2 HO HXS f4 c4 HOA b1 l1
  have HAD : Hid (addE gs (x, y) = orAt (orAt gs x y) y x) := rfl
  generalize orAt gs x y = gs2 at HO2 HLO2 HAD
  obtain ⟨-, -, -, -, hcl, hfr⟩ := HO2.out.at
  have c5 := hcl y hy
  have f6 := hfr y
  rw [ofN_get] at c5
  have l2 := HLO2.out y
  have b2 := bits_or (gs2.getD y 0) px (by omega) (by omega)
  have HO3 : Hid (∀ z : Nat, Own (W2.setCell ⟨b, y, none⟩ (.int .i64 (z : Int))) base (.slice (some ⟨b, 0, none⟩) n c) (ofN (gs2.set y z))) := fun z => by rw [ofN_set]; exact HO2.out.set y z
  have HXS := Lib.hid fun (z : Value) => HX2.out.setCell (p := ⟨b, y, none⟩) hbb z
  have HOA : Hid (orAt gs2 y x = gs2.set y (bor (gs2.getD y 0) px)) := by unfold orAt Hid; rw [hpx]
  clear hcl hfr hpx
  generalize bor (gs2.getD y 0) px = z2 at b2 HOA
  generalize gs2.getD y 0 = gy at c5 b2 l2
  go_wp2
  go_region
  go_wp2
  go_end0
  exact ⟨rfl, by rw [HAD.out, HOA.out]; exact (HO3.out z2).drew, Below.drew (HXS.out _)⟩
theorem edgesN_snoc (n : Nat) (ps : List (Nat × Nat)) (p : Nat × Nat) : edgesN n (ps ++ [p]) = addE (edgesN n ps) p := by
  unfold edgesN
  rw [List.foldl_append]
  rfl
theorem Low.add {g : List Nat} (h : Low g) {p : Nat × Nat} (h1 : p.1 < 12) (h2 : p.2 < 12) : Low (addE g p) := (h.put p.1 h2).put p.2 h1

set_option maxRecDepth 100000 in
set_option maxHeartbeats 8000000 in
theorem kindI0 (n : Nat) (w : World) (hn1 : 1 ≤ n) (hn : n ≤ 12) :
    Calls Tryz.prog 17 #[.int .i64 0, .int .i64 n] w fun e w' => ∃ v, e = .returned (listV v true) ∧ Own w' w.heap.size v (kindGr 0 n) ∧ Ext w w' := by
  obtain ⟨i0, hi, hz0, hz1, hz2⟩ := info_parts info_int
  have hin1 : inB 0 0 3 = true := inB_iff.2 ⟨by omega, by omega⟩
  have hin2 : inB 1 (n : Int) 12 = true := inB_iff.2 ⟨by omega, by omega⟩
  go_enter Tryz.func17, Tryz.ntmps17
  go_wp2_with (first
    | (go_at_call 36; refine (in_c _ _ _ _).mono ?_; rintro e w' ⟨rfl, rfl⟩)
    | (at_make; refine wpList_make_full _ rfl _ _ 62 rfl w.heap.size 3 i0 (.int .i64 0) 1 Tryz.underlying62 hi hz0 hz1 _ _ _ _ n rfl rfl rfl rfl (by rw [hz2]; omega) (by unfold maxLen; omega) (Nat.le_refl _) ?_; intro w1 hown hgr))
  have hrow : Own w1 w.heap.size (.slice (some ⟨w.heap.size, 0, none⟩) n n) (ofN (List.replicate n 0)) := by
    have := hown
    simp only [Value.cells, Nat.mul_one, toList_madeCells_one] at this
    unfold ofN Own; simpa using this
  have hx1 : Ext w w1 := (Ext.refl w).grown hgr (fun _ h => by cases h)
  have HR := Lib.hid hrow; have HX := Lib.hid hx1
  clear hown hgr hi hz0 hz1 hz2 hrow hx1 hin1 hin2
  go_loopw [28] (fun i wr => ∃ k : Nat, k ≤ n ∧ i = .int .i64 k ∧ Hid (Low (edgesN n (allI 0 n k))) ∧ Hid (Own wr w.heap.size (.slice (some ⟨w.heap.size, 0, none⟩) n n) (ofN (edgesN n (allI 0 n k)))) ∧ Hid (Ext w wr)) (fun i _ => n - (intOf i).toNat)
  case atStart => exact ⟨0, Nat.zero_le _, rfl, Low.rep n, HR, HX⟩
  case round =>
    clear HR HX
    obtain ⟨i, hi, rfl, HLO, HR, HX⟩ := hrel
    by_cases hlt : i < n
    · go_wp2
      go_loopw [32] (fun q wr => ∃ k : Nat, k ≤ i ∧ q = .int .i64 k ∧ Hid (Low (edgesN n (allI 0 n i ++ iRow 0 n i k))) ∧ Hid (Own wr w.heap.size (.slice (some ⟨w.heap.size, 0, none⟩) n n) (ofN (edgesN n (allI 0 n i ++ iRow 0 n i k)))) ∧ Hid (Ext w wr)) (fun q _ => i - (intOf q).toNat)
      case atStart => exact ⟨0, Nat.zero_le _, rfl, by unfold Hid; rw [show iRow 0 n i 0 = [] from rfl, List.append_nil]; exact HLO.out, by unfold Hid; rw [show iRow 0 n i 0 = [] from rfl, List.append_nil]; exact HR.out, HX⟩
      case round =>
        clear HLO HR HX
        obtain ⟨k, hk, rfl, HLO, HR, HX⟩ := hrel
        by_cases hlk : k < i
        · obtain ⟨n1, hn1'⟩ : ∃ n1 : Nat, (n : Int) - 1 = (n1 : Int) := ⟨n - 1, by omega⟩
          obtain ⟨i1, hi1⟩ : ∃ i1 : Nat, (i : Int) - 1 = (i1 : Int) := ⟨i - 1, by omega⟩
          obtain ⟨b0, hb0⟩ : ∃ b, ((k : Int) == 0) = b := ⟨_, rfl⟩
          obtain ⟨bn, hbn⟩ : ∃ b, ((k : Int) == (i1 : Int)) = b := ⟨_, rfl⟩
          obtain ⟨be, hbe⟩ : ∃ b, ((i : Int) == (n1 : Int)) = b := ⟨_, rfl⟩
          have HSE : Hid (sEdge 0 n k i = ((0 == 3) || (0 == 2 && b0) || (decide (0 < 2) && bn) || (0 == 1 && b0 && be))) := by
            unfold sEdge Hid
            have e0 : (k == 0) = b0 := by rw [← hb0]; exact (beq_cast k 0).symm
            have en : (i == k + 1) = bn := by rw [← hbn, Bool.eq_iff_iff, beq_iff_eq, beq_iff_eq]; omega
            have ee : (i + 1 == n) = be := by rw [← hbe, Bool.eq_iff_iff, beq_iff_eq, beq_iff_eq]; omega
            rw [e0, en, ee]
          have HJ := Lib.hid (join_c w.heap.size w.heap.size n n _ i k wr HR.out HLO.out hlt (by omega) hn)
          rw [← edgesN_snoc] at HJ
          have HLA : Hid (Low (edgesN n (allI 0 n i ++ iRow 0 n i k ++ [(i, k)]))) := by unfold Hid; rw [edgesN_snoc]; exact HLO.out.add (by show i < 12; omega) (by show k < 12; omega)
          cases b0 <;> cases bn <;> cases be
          all_goals go_wp2_with (go_at_call 38; refine HJ.out.mono ?_; rintro e w3 ⟨rfl, o3, x3⟩; have O3 := Lib.hid o3; have X3 : Hid (Ext w w3) := Below.trans HX.out x3; clear o3 x3)
          all_goals go_roundw
          all_goals first
            | exact ⟨k + 1, by omega, by go_num, by unfold Hid; rw [iRow_add (HSE.out.trans (by decide)), ← List.append_assoc]; exact HLA.out, by unfold Hid; rw [iRow_add (HSE.out.trans (by decide)), ← List.append_assoc]; exact O3.out, X3⟩
            | exact ⟨k + 1, by omega, by go_num, by unfold Hid; rw [iRow_skip (HSE.out.trans (by decide))]; exact HLO.out, by unfold Hid; rw [iRow_skip (HSE.out.trans (by decide))]; exact HR.out, HX⟩
            | (simp [intOf]; omega)
        · obtain rfl : k = i := by omega
          go_wp2
          go_roundw
          case rel => exact ⟨k + 1, by omega, by go_num, HLO, HR, HX⟩
          case measure => simp [intOf]; omega
    · obtain rfl : i = n := by omega
      have HE : Hid (ofN (edgesN i (allI 0 i i)) = kindGr 0 i) := by unfold kindGr Hid; rw [kinds_same 0 (by omega) i (by omega)]
      go_wp2
      go_ret2
      exact ⟨_, rfl, by rw [← HE.out]; exact HR.out, HX.out⟩

set_option maxRecDepth 100000 in
set_option maxHeartbeats 8000000 in
theorem kindI1 (n : Nat) (w : World) (hn1 : 1 ≤ n) (hn : n ≤ 12) (hn3 : 3 ≤ n) :
    Calls Tryz.prog 17 #[.int .i64 1, .int .i64 n] w fun e w' => ∃ v, e = .returned (listV v true) ∧ Own w' w.heap.size v (kindGr 1 n) ∧ Ext w w' := by
  obtain ⟨i0, hi, hz0, hz1, hz2⟩ := info_parts info_int
  have hin1 : inB 0 1 3 = true := inB_iff.2 ⟨by omega, by omega⟩
  have hin2 : inB 1 (n : Int) 12 = true := inB_iff.2 ⟨by omega, by omega⟩
  go_enter Tryz.func17, Tryz.ntmps17
  go_wp2_with (first
    | (go_at_call 36; refine (in_c _ _ _ _).mono ?_; rintro e w' ⟨rfl, rfl⟩)
    | (at_make; refine wpList_make_full _ rfl _ _ 62 rfl w.heap.size 3 i0 (.int .i64 0) 1 Tryz.underlying62 hi hz0 hz1 _ _ _ _ n rfl rfl rfl rfl (by rw [hz2]; omega) (by unfold maxLen; omega) (Nat.le_refl _) ?_; intro w1 hown hgr))
  have hrow : Own w1 w.heap.size (.slice (some ⟨w.heap.size, 0, none⟩) n n) (ofN (List.replicate n 0)) := by
    have := hown
    simp only [Value.cells, Nat.mul_one, toList_madeCells_one] at this
    unfold ofN Own; simpa using this
  have hx1 : Ext w w1 := (Ext.refl w).grown hgr (fun _ h => by cases h)
  have HR := Lib.hid hrow; have HX := Lib.hid hx1
  clear hown hgr hi hz0 hz1 hz2 hrow hx1 hin1 hin2
  go_loopw [28] (fun i wr => ∃ k : Nat, k ≤ n ∧ i = .int .i64 k ∧ Hid (Low (edgesN n (allI 1 n k))) ∧ Hid (Own wr w.heap.size (.slice (some ⟨w.heap.size, 0, none⟩) n n) (ofN (edgesN n (allI 1 n k)))) ∧ Hid (Ext w wr)) (fun i _ => n - (intOf i).toNat)
  case atStart => exact ⟨0, Nat.zero_le _, rfl, Low.rep n, HR, HX⟩
  case round =>
    clear HR HX
    obtain ⟨i, hi, rfl, HLO, HR, HX⟩ := hrel
    by_cases hlt : i < n
    · go_wp2
      go_loopw [32] (fun q wr => ∃ k : Nat, k ≤ i ∧ q = .int .i64 k ∧ Hid (Low (edgesN n (allI 1 n i ++ iRow 1 n i k))) ∧ Hid (Own wr w.heap.size (.slice (some ⟨w.heap.size, 0, none⟩) n n) (ofN (edgesN n (allI 1 n i ++ iRow 1 n i k)))) ∧ Hid (Ext w wr)) (fun q _ => i - (intOf q).toNat)
      case atStart => exact ⟨0, Nat.zero_le _, rfl, by unfold Hid; rw [show iRow 1 n i 0 = [] from rfl, List.append_nil]; exact HLO.out, by unfold Hid; rw [show iRow 1 n i 0 = [] from rfl, List.append_nil]; exact HR.out, HX⟩
      case round =>
        clear HLO HR HX
        obtain ⟨k, hk, rfl, HLO, HR, HX⟩ := hrel
        by_cases hlk : k < i
        · obtain ⟨n1, hn1'⟩ : ∃ n1 : Nat, (n : Int) - 1 = (n1 : Int) := ⟨n - 1, by omega⟩
          obtain ⟨i1, hi1⟩ : ∃ i1 : Nat, (i : Int) - 1 = (i1 : Int) := ⟨i - 1, by omega⟩
          obtain ⟨b0, hb0⟩ : ∃ b, ((k : Int) == 0) = b := ⟨_, rfl⟩
          obtain ⟨bn, hbn⟩ : ∃ b, ((k : Int) == (i1 : Int)) = b := ⟨_, rfl⟩
          obtain ⟨be, hbe⟩ : ∃ b, ((i : Int) == (n1 : Int)) = b := ⟨_, rfl⟩
          have HSE : Hid (sEdge 1 n k i = ((1 == 3) || (1 == 2 && b0) || (decide (1 < 2) && bn) || (1 == 1 && b0 && be))) := by
            unfold sEdge Hid
            have e0 : (k == 0) = b0 := by rw [← hb0]; exact (beq_cast k 0).symm
            have en : (i == k + 1) = bn := by rw [← hbn, Bool.eq_iff_iff, beq_iff_eq, beq_iff_eq]; omega
            have ee : (i + 1 == n) = be := by rw [← hbe, Bool.eq_iff_iff, beq_iff_eq, beq_iff_eq]; omega
            rw [e0, en, ee]
          have HJ := Lib.hid (join_c w.heap.size w.heap.size n n _ i k wr HR.out HLO.out hlt (by omega) hn)
          rw [← edgesN_snoc] at HJ
          have HLA : Hid (Low (edgesN n (allI 1 n i ++ iRow 1 n i k ++ [(i, k)]))) := by unfold Hid; rw [edgesN_snoc]; exact HLO.out.add (by show i < 12; omega) (by show k < 12; omega)
          cases b0 <;> cases bn <;> cases be
          all_goals go_wp2_with (go_at_call 38; refine HJ.out.mono ?_; rintro e w3 ⟨rfl, o3, x3⟩; have O3 := Lib.hid o3; have X3 : Hid (Ext w w3) := Below.trans HX.out x3; clear o3 x3)
          all_goals go_roundw
          all_goals first
            | exact ⟨k + 1, by omega, by go_num, by unfold Hid; rw [iRow_add (HSE.out.trans (by decide)), ← List.append_assoc]; exact HLA.out, by unfold Hid; rw [iRow_add (HSE.out.trans (by decide)), ← List.append_assoc]; exact O3.out, X3⟩
            | exact ⟨k + 1, by omega, by go_num, by unfold Hid; rw [iRow_skip (HSE.out.trans (by decide))]; exact HLO.out, by unfold Hid; rw [iRow_skip (HSE.out.trans (by decide))]; exact HR.out, HX⟩
            | (simp [intOf]; omega)
        · obtain rfl : k = i := by omega
          go_wp2
          go_roundw
          case rel => exact ⟨k + 1, by omega, by go_num, HLO, HR, HX⟩
          case measure => simp [intOf]; omega
    · obtain rfl : i = n := by omega
      have HE : Hid (ofN (edgesN i (allI 1 i i)) = kindGr 1 i) := by unfold kindGr Hid; rw [kinds_same 1 (by omega) i (by omega)]
      go_wp2
      go_ret2
      exact ⟨_, rfl, by rw [← HE.out]; exact HR.out, HX.out⟩

set_option maxRecDepth 100000 in
set_option maxHeartbeats 8000000 in
theorem kindI2 (n : Nat) (w : World) (hn1 : 1 ≤ n) (hn : n ≤ 12) :
    Calls Tryz.prog 17 #[.int .i64 2, .int .i64 n] w fun e w' => ∃ v, e = .returned (listV v true) ∧ Own w' w.heap.size v (kindGr 2 n) ∧ Ext w w' := by
  obtain ⟨i0, hi, hz0, hz1, hz2⟩ := info_parts info_int
  have hin1 : inB 0 2 3 = true := inB_iff.2 ⟨by omega, by omega⟩
  have hin2 : inB 1 (n : Int) 12 = true := inB_iff.2 ⟨by omega, by omega⟩
  go_enter Tryz.func17, Tryz.ntmps17
  go_wp2_with (first
    | (go_at_call 36; refine (in_c _ _ _ _).mono ?_; rintro e w' ⟨rfl, rfl⟩)
    | (at_make; refine wpList_make_full _ rfl _ _ 62 rfl w.heap.size 3 i0 (.int .i64 0) 1 Tryz.underlying62 hi hz0 hz1 _ _ _ _ n rfl rfl rfl rfl (by rw [hz2]; omega) (by unfold maxLen; omega) (Nat.le_refl _) ?_; intro w1 hown hgr))
  have hrow : Own w1 w.heap.size (.slice (some ⟨w.heap.size, 0, none⟩) n n) (ofN (List.replicate n 0)) := by
    have := hown
    simp only [Value.cells, Nat.mul_one, toList_madeCells_one] at this
    unfold ofN Own; simpa using this
  have hx1 : Ext w w1 := (Ext.refl w).grown hgr (fun _ h => by cases h)
  have HR := Lib.hid hrow; have HX := Lib.hid hx1
  clear hown hgr hi hz0 hz1 hz2 hrow hx1 hin1 hin2
  go_loopw [28] (fun i wr => ∃ k : Nat, k ≤ n ∧ i = .int .i64 k ∧ Hid (Low (edgesN n (allI 2 n k))) ∧ Hid (Own wr w.heap.size (.slice (some ⟨w.heap.size, 0, none⟩) n n) (ofN (edgesN n (allI 2 n k)))) ∧ Hid (Ext w wr)) (fun i _ => n - (intOf i).toNat)
  case atStart => exact ⟨0, Nat.zero_le _, rfl, Low.rep n, HR, HX⟩
  case round =>
    clear HR HX
    obtain ⟨i, hi, rfl, HLO, HR, HX⟩ := hrel
    by_cases hlt : i < n
    · go_wp2
      go_loopw [32] (fun q wr => ∃ k : Nat, k ≤ i ∧ q = .int .i64 k ∧ Hid (Low (edgesN n (allI 2 n i ++ iRow 2 n i k))) ∧ Hid (Own wr w.heap.size (.slice (some ⟨w.heap.size, 0, none⟩) n n) (ofN (edgesN n (allI 2 n i ++ iRow 2 n i k)))) ∧ Hid (Ext w wr)) (fun q _ => i - (intOf q).toNat)
      case atStart => exact ⟨0, Nat.zero_le _, rfl, by unfold Hid; rw [show iRow 2 n i 0 = [] from rfl, List.append_nil]; exact HLO.out, by unfold Hid; rw [show iRow 2 n i 0 = [] from rfl, List.append_nil]; exact HR.out, HX⟩
      case round =>
        clear HLO HR HX
        obtain ⟨k, hk, rfl, HLO, HR, HX⟩ := hrel
        by_cases hlk : k < i
        · obtain ⟨n1, hn1'⟩ : ∃ n1 : Nat, (n : Int) - 1 = (n1 : Int) := ⟨n - 1, by omega⟩
          obtain ⟨i1, hi1⟩ : ∃ i1 : Nat, (i : Int) - 1 = (i1 : Int) := ⟨i - 1, by omega⟩
          obtain ⟨b0, hb0⟩ : ∃ b, ((k : Int) == 0) = b := ⟨_, rfl⟩
          obtain ⟨bn, hbn⟩ : ∃ b, ((k : Int) == (i1 : Int)) = b := ⟨_, rfl⟩
          obtain ⟨be, hbe⟩ : ∃ b, ((i : Int) == (n1 : Int)) = b := ⟨_, rfl⟩
          have HSE : Hid (sEdge 2 n k i = ((2 == 3) || (2 == 2 && b0) || (decide (2 < 2) && bn) || (2 == 1 && b0 && be))) := by
            unfold sEdge Hid
            have e0 : (k == 0) = b0 := by rw [← hb0]; exact (beq_cast k 0).symm
            have en : (i == k + 1) = bn := by rw [← hbn, Bool.eq_iff_iff, beq_iff_eq, beq_iff_eq]; omega
            have ee : (i + 1 == n) = be := by rw [← hbe, Bool.eq_iff_iff, beq_iff_eq, beq_iff_eq]; omega
            rw [e0, en, ee]
          have HJ := Lib.hid (join_c w.heap.size w.heap.size n n _ i k wr HR.out HLO.out hlt (by omega) hn)
          rw [← edgesN_snoc] at HJ
          have HLA : Hid (Low (edgesN n (allI 2 n i ++ iRow 2 n i k ++ [(i, k)]))) := by unfold Hid; rw [edgesN_snoc]; exact HLO.out.add (by show i < 12; omega) (by show k < 12; omega)
          cases b0 <;> cases bn <;> cases be
          all_goals go_wp2_with (go_at_call 38; refine HJ.out.mono ?_; rintro e w3 ⟨rfl, o3, x3⟩; have O3 := Lib.hid o3; have X3 : Hid (Ext w w3) := Below.trans HX.out x3; clear o3 x3)
          all_goals go_roundw
          all_goals first
            | exact ⟨k + 1, by omega, by go_num, by unfold Hid; rw [iRow_add (HSE.out.trans (by decide)), ← List.append_assoc]; exact HLA.out, by unfold Hid; rw [iRow_add (HSE.out.trans (by decide)), ← List.append_assoc]; exact O3.out, X3⟩
            | exact ⟨k + 1, by omega, by go_num, by unfold Hid; rw [iRow_skip (HSE.out.trans (by decide))]; exact HLO.out, by unfold Hid; rw [iRow_skip (HSE.out.trans (by decide))]; exact HR.out, HX⟩
            | (simp [intOf]; omega)
        · obtain rfl : k = i := by omega
          go_wp2
          go_roundw
          case rel => exact ⟨k + 1, by omega, by go_num, HLO, HR, HX⟩
          case measure => simp [intOf]; omega
    · obtain rfl : i = n := by omega
      have HE : Hid (ofN (edgesN i (allI 2 i i)) = kindGr 2 i) := by unfold kindGr Hid; rw [kinds_same 2 (by omega) i (by omega)]
      go_wp2
      go_ret2
      exact ⟨_, rfl, by rw [← HE.out]; exact HR.out, HX.out⟩

set_option maxRecDepth 100000 in
set_option maxHeartbeats 8000000 in
theorem kindI3 (n : Nat) (w : World) (hn1 : 1 ≤ n) (hn : n ≤ 12) :
    Calls Tryz.prog 17 #[.int .i64 3, .int .i64 n] w fun e w' => ∃ v, e = .returned (listV v true) ∧ Own w' w.heap.size v (kindGr 3 n) ∧ Ext w w' := by
  obtain ⟨i0, hi, hz0, hz1, hz2⟩ := info_parts info_int
  have hin1 : inB 0 3 3 = true := inB_iff.2 ⟨by omega, by omega⟩
  have hin2 : inB 1 (n : Int) 12 = true := inB_iff.2 ⟨by omega, by omega⟩
  go_enter Tryz.func17, Tryz.ntmps17
  go_wp2_with (first
    | (go_at_call 36; refine (in_c _ _ _ _).mono ?_; rintro e w' ⟨rfl, rfl⟩)
    | (at_make; refine wpList_make_full _ rfl _ _ 62 rfl w.heap.size 3 i0 (.int .i64 0) 1 Tryz.underlying62 hi hz0 hz1 _ _ _ _ n rfl rfl rfl rfl (by rw [hz2]; omega) (by unfold maxLen; omega) (Nat.le_refl _) ?_; intro w1 hown hgr))
  have hrow : Own w1 w.heap.size (.slice (some ⟨w.heap.size, 0, none⟩) n n) (ofN (List.replicate n 0)) := by
    have := hown
    simp only [Value.cells, Nat.mul_one, toList_madeCells_one] at this
    unfold ofN Own; simpa using this
  have hx1 : Ext w w1 := (Ext.refl w).grown hgr (fun _ h => by cases h)
  have HR := Lib.hid hrow; have HX := Lib.hid hx1
  clear hown hgr hi hz0 hz1 hz2 hrow hx1 hin1 hin2
  go_loopw [28] (fun i wr => ∃ k : Nat, k ≤ n ∧ i = .int .i64 k ∧ Hid (Low (edgesN n (allI 3 n k))) ∧ Hid (Own wr w.heap.size (.slice (some ⟨w.heap.size, 0, none⟩) n n) (ofN (edgesN n (allI 3 n k)))) ∧ Hid (Ext w wr)) (fun i _ => n - (intOf i).toNat)
  case atStart => exact ⟨0, Nat.zero_le _, rfl, Low.rep n, HR, HX⟩
  case round =>
    clear HR HX
    obtain ⟨i, hi, rfl, HLO, HR, HX⟩ := hrel
    by_cases hlt : i < n
    · go_wp2
      go_loopw [32] (fun q wr => ∃ k : Nat, k ≤ i ∧ q = .int .i64 k ∧ Hid (Low (edgesN n (allI 3 n i ++ iRow 3 n i k))) ∧ Hid (Own wr w.heap.size (.slice (some ⟨w.heap.size, 0, none⟩) n n) (ofN (edgesN n (allI 3 n i ++ iRow 3 n i k)))) ∧ Hid (Ext w wr)) (fun q _ => i - (intOf q).toNat)
      case atStart => exact ⟨0, Nat.zero_le _, rfl, by unfold Hid; rw [show iRow 3 n i 0 = [] from rfl, List.append_nil]; exact HLO.out, by unfold Hid; rw [show iRow 3 n i 0 = [] from rfl, List.append_nil]; exact HR.out, HX⟩
      case round =>
        clear HLO HR HX
        obtain ⟨k, hk, rfl, HLO, HR, HX⟩ := hrel
        by_cases hlk : k < i
        · obtain ⟨n1, hn1'⟩ : ∃ n1 : Nat, (n : Int) - 1 = (n1 : Int) := ⟨n - 1, by omega⟩
          obtain ⟨i1, hi1⟩ : ∃ i1 : Nat, (i : Int) - 1 = (i1 : Int) := ⟨i - 1, by omega⟩
          obtain ⟨b0, hb0⟩ : ∃ b, ((k : Int) == 0) = b := ⟨_, rfl⟩
          obtain ⟨bn, hbn⟩ : ∃ b, ((k : Int) == (i1 : Int)) = b := ⟨_, rfl⟩
          obtain ⟨be, hbe⟩ : ∃ b, ((i : Int) == (n1 : Int)) = b := ⟨_, rfl⟩
          have HSE : Hid (sEdge 3 n k i = ((3 == 3) || (3 == 2 && b0) || (decide (3 < 2) && bn) || (3 == 1 && b0 && be))) := by
            unfold sEdge Hid
            have e0 : (k == 0) = b0 := by rw [← hb0]; exact (beq_cast k 0).symm
            have en : (i == k + 1) = bn := by rw [← hbn, Bool.eq_iff_iff, beq_iff_eq, beq_iff_eq]; omega
            have ee : (i + 1 == n) = be := by rw [← hbe, Bool.eq_iff_iff, beq_iff_eq, beq_iff_eq]; omega
            rw [e0, en, ee]
          have HJ := Lib.hid (join_c w.heap.size w.heap.size n n _ i k wr HR.out HLO.out hlt (by omega) hn)
          rw [← edgesN_snoc] at HJ
          have HLA : Hid (Low (edgesN n (allI 3 n i ++ iRow 3 n i k ++ [(i, k)]))) := by unfold Hid; rw [edgesN_snoc]; exact HLO.out.add (by show i < 12; omega) (by show k < 12; omega)
          cases b0 <;> cases bn <;> cases be
          all_goals go_wp2_with (go_at_call 38; refine HJ.out.mono ?_; rintro e w3 ⟨rfl, o3, x3⟩; have O3 := Lib.hid o3; have X3 : Hid (Ext w w3) := Below.trans HX.out x3; clear o3 x3)
          all_goals go_roundw
          all_goals first
            | exact ⟨k + 1, by omega, by go_num, by unfold Hid; rw [iRow_add (HSE.out.trans (by decide)), ← List.append_assoc]; exact HLA.out, by unfold Hid; rw [iRow_add (HSE.out.trans (by decide)), ← List.append_assoc]; exact O3.out, X3⟩
            | exact ⟨k + 1, by omega, by go_num, by unfold Hid; rw [iRow_skip (HSE.out.trans (by decide))]; exact HLO.out, by unfold Hid; rw [iRow_skip (HSE.out.trans (by decide))]; exact HR.out, HX⟩
            | (simp [intOf]; omega)
        · obtain rfl : k = i := by omega
          go_wp2
          go_roundw
          case rel => exact ⟨k + 1, by omega, by go_num, HLO, HR, HX⟩
          case measure => simp [intOf]; omega
    · obtain rfl : i = n := by omega
      have HE : Hid (ofN (edgesN i (allI 3 i i)) = kindGr 3 i) := by unfold kindGr Hid; rw [kinds_same 3 (by omega) i (by omega)]
      go_wp2
      go_ret2
      exact ⟨_, rfl, by rw [← HE.out]; exact HR.out, HX.out⟩

set_option maxHeartbeats 1000000 in
theorem graphKindJ_c (k n : Int) (w : World) :
    Calls Tryz.prog 17 #[.int .i64 k, .int .i64 n] w fun e w' => ∃ v, e = .returned (listV v (graphKind k n).2) ∧ Own w' w.heap.size v (graphKind k n).1 ∧ Ext w w' := by
  cases hk : kindOk k n
  · rw [show graphKind k n = ([], false) from by unfold graphKind; rw [hk]; rfl]
    cases h1 : inB 0 k 3
    · clear hk
      go_enter Tryz.func17, Tryz.ntmps17
      go_wp2_with (go_at_call 36; refine (in_c _ _ _ _).mono ?_; rintro e w' ⟨rfl, rfl⟩)
      go_ret2
      exact ⟨_, rfl, Own.nil _ _, Ext.refl w⟩
    · cases h2 : inB 1 n 12
      · clear hk
        go_enter Tryz.func17, Tryz.ntmps17
        go_wp2_with (go_at_call 36; refine (in_c _ _ _ _).mono ?_; rintro e w' ⟨rfl, rfl⟩)
        go_ret2
        exact ⟨_, rfl, Own.nil _ _, Ext.refl w⟩
      · obtain ⟨rfl, h3⟩ : k = 1 ∧ n < 3 := by
          unfold kindOk at hk
          rw [h1, h2, Bool.true_and, Bool.true_and, Bool.not_eq_false', Bool.and_eq_true, decide_eq_true_iff, decide_eq_true_iff] at hk
          exact hk
        clear hk
        go_enter Tryz.func17, Tryz.ntmps17
        go_wp2_with (go_at_call 36; refine (in_c _ _ _ _).mono ?_; rintro e w' ⟨rfl, rfl⟩)
        go_ret2
        exact ⟨_, rfl, Own.nil _ _, Ext.refl w⟩
  · obtain ⟨K, N, rfl, rfl, hK, hN1, hN, h3⟩ := kindOk_iff.1 hk
    rw [show graphKind (K : Int) (N : Int) = (kindGr K N, true) from by unfold graphKind; rw [hk]; rfl]
    rcases (show K = 0 ∨ K = 1 ∨ K = 2 ∨ K = 3 by omega) with rfl | rfl | rfl | rfl
    · exact kindI0 N w hN1 hN
    · exact kindI1 N w hN1 hN (h3 rfl)
    · exact kindI2 N w hN1 hN
    · exact kindI3 N w hN1 hN
end Go.Proofs.YtkmfmhckpfomeaaGreatDoor
