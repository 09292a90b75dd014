/- The book of a graph: its balls and its distances. No condition. -/
import Derived.Test.YtpmammklklkheaaDist
import Derived.Deep.RegionLaw
namespace Go.Proofs.Ytpmammklklkheaa
open Go.RowKit
open BigFrame
attribute [local go_sem] Oper.semAt_some

theorem info_row : (Try.prog.info? 23).map (fun i => (i.zero, i.size, i.bytes)) = some (some (.slice none 0 0), 1, 24) := by kernel_rfl
theorem three_cells {W : World} {b : Nat} {v u x : Value} {t : TypeId} (h : W.heap[b]? = some (.cells #[v, u, x] t (0, 0))) :
    W.cell? ⟨b, 0, none⟩ = some v ∧ W.cell? ⟨b, 1, none⟩ = some u ∧ W.cell? ⟨b, 2, none⟩ = some x ∧ ∀ i, W.frozen? ⟨b, i, none⟩ = false := by
  refine ⟨?_, ?_, ?_, fun i => ?_⟩ <;> simp [World.cell?, World.frozen?, h]
/-- A row of rows of the call's own. -/
def OwnRows (w : World) (base : Nat) (v : Value) (vs : List Value) : Prop := w.ownsRow base 23 1 v vs.length vs
theorem step_append_row {ops : Array Oper} {o : Oper} {a : Act} {K : Act → World → Prop} {Q : Exit → Act → World → Prop} {E : Prop} {w : World} (hgd : o.guard = none) (s x : Operand)
    (ho : o.op = .call { callee := .builtin .append, args := #[s, x], argTypes := #[69, 69] })
    (base : Nat) (v : Value) (vs : List Value) (hs : a.eval s = v) (hown : OwnRows w base v vs) (g : Nat) (y : Value) (hy : y.oneCell' = true) (hx : a.eval x = .slice (some ⟨g, 0, none⟩) 1 1)
    (hc : w.cell? ⟨g, 0, none⟩ = some y) (hn : vs.length ≤ 1048576) (hb : base ≤ w.heap.size)
    (h : ∀ g' cap w', OwnRows w' base (.slice (some ⟨g', 0, none⟩) (vs.length + 1) cap) (vs ++ [y]) → w.grownBy w' v.ownBlock → K (a.put o.dst (.slice (some ⟨g', 0, none⟩) (vs.length + 1) cap)) w') :
    if Region.wanted o (yielded ops a.tmps) = true then Oper.wp Try.prog o a w K Q else E := by
  obtain ⟨i0, hi, hz0, hz1, hz2⟩ := info_parts info_row
  refine step_append_lies w hgd s x 69 ho base 23 i0 (.slice none 0 0) 1 24 Try.underlying69 hi hz0 hz1 hz2 rfl (by decide) v vs.length _ hs hown ⟨g, 0, none⟩ 1 1 [y] hx rfl ?_ (fun u hu => by simp at hu; subst hu; exact hy) (by omega) (by unfold maxLen; omega) (by omega) hb _ rfl ?_
  · intro j u hu
    cases j with
    | zero => simp at hu; subst hu; exact hc
    | succ j => simp at hu
  · intro g' cap w' h1 h2 _ _
    refine h g' cap w' ?_ h2
    unfold OwnRows; simpa using h1
theorem OwnRows.ext {w w' : World} {base : Nat} {v : Value} {vs : List Value} (h : OwnRows w base v vs) (hx : Ext w w') : OwnRows w' base v vs := by
  obtain ⟨h1, h2⟩ := h
  refine ⟨h1, ?_⟩
  rcases h2 with h2 | ⟨g, cap, cur, hv, hg, hh, r⟩
  · exact .inl h2
  · exact .inr ⟨g, cap, cur, hv, hg, (hx.block (Array.getElem?_eq_some_iff.1 hh).1).trans hh, r⟩
/-- A row of numbers and a row of rows lie apart. -/
theorem Own.apart {w : World} {base base' : Nat} {v v' : Value} {xs : List Int} {vs : List Value} (h : Own w base v xs) (h' : OwnRows w base' v' vs) : v.ownBlock = none ∨ v.ownBlock ≠ v'.ownBlock := by
  rcases h.2 with ⟨rfl, _⟩ | ⟨g, cap, cur, rfl, _, hh, _⟩
  · exact .inl rfl
  · rcases h'.2 with ⟨rfl, _⟩ | ⟨g', cap', cur', rfl, _, hh', _⟩
    · exact .inr (by simp [Value.ownBlock])
    · refine .inr fun e => ?_
      simp only [Value.ownBlock, Option.some.injEq] at e
      subst e
      rw [hh] at hh'
      simp at hh'
structure IsBook (w : World) (b : Nat) (g : List Int) (v vb vf : Value) (vs : List Value) : Prop where
  graph : w.cell? ⟨b, 0, none⟩ = some v
  balls : w.cell? ⟨b, 1, none⟩ = some vb
  far : w.cell? ⟨b, 2, none⟩ = some vf
  lt : b < w.heap.size
  hb : ∃ base, Own w base vb (ballsTo g g.length)
  hf : ∃ base, OwnRows w base vf vs
  len : vs.length = g.length
  row : ∀ i, i < g.length → ∃ base, Own w base (vs.getD i undef) (distOf g i)
theorem IsBook.ext {w w' : World} {b : Nat} {g : List Int} {v vb vf : Value} {vs : List Value} (h : IsBook w b g v vb vf vs) (hx : Ext w w') : IsBook w' b g v vb vf vs :=
  ⟨(hx.cell h.lt).trans h.graph, (hx.cell h.lt).trans h.balls, (hx.cell h.lt).trans h.far, Nat.lt_of_lt_of_le h.lt hx.size, h.hb.imp fun _ h => h.ext hx, h.hf.imp fun _ h => h.ext hx, h.len, fun i hi => (h.row i hi).imp fun _ h => h.ext hx⟩

theorem grownBy_set (w : World) (p : Addr) (u : Value) : w.grownBy (w.setCell p u) (some p.block) := by
  refine ⟨rfl, rfl, rfl, by simp, fun k _ hne => ?_⟩
  show (w.heap.modify p.block _)[k]? = _
  rw [Array.getElem?_modify, if_neg (fun e => hne (by rw [e]))]
theorem dist_length {g : List Int} (hg : IsGraph g) {x : Nat} (hx : x < g.length) : (distOf g x).length = g.length := (bfs_lt hg hx 4096).2.2.2
theorem Own.form' {w : World} {base : Nat} {v : Value} {xs : List Int} {n : Nat} (h : Own w base v xs) (hn : xs.length = n) : ∃ g c, v = .slice g n c := by
  rcases h.get with ⟨rfl, h0⟩ | ⟨g, c, rfl, _⟩
  · subst h0; exact ⟨none, 0, by rw [← hn]; rfl⟩
  · exact ⟨_, c, by rw [hn]⟩

set_option maxRecDepth 100000 in
set_option maxHeartbeats 2000000 in
theorem bookOf_c (v : Value) (g : List Int) (w : World) (hv : Rd w v g) (hg : IsGraph g) :
    Calls Try.prog 61 #[v] w fun e w' => ∃ b vb vf vs, e = .returned (.pointer (some ⟨b, 0, none⟩)) ∧ w.heap.size ≤ b ∧ IsBook w' b g v vb vf vs ∧ Ext w w' := by
  obtain ⟨a, c, rfl⟩ := hv.form
  have HV := Lib.hid hv; clear hv
  have HG := Lib.hid hg
  have hl := hg.le
  clear hg
  go_enter Try.func61, Try.ntmps61
  go_wp2_with fail
  refine (balls_c _ g _ HV.out HG.out).mono ?_
  rintro e w2 ⟨vb, rfl, ob, x2⟩
  have hone : vb.oneCell' = true := by
    rcases ob.get with ⟨rfl, _⟩ | ⟨gb, cb, rfl, _⟩ <;> rfl
  obtain ⟨gb, cb, hvb⟩ : ∃ gb cb, vb = .slice gb g.length cb := by
    rcases ob.get with ⟨rfl, h⟩ | ⟨gb, cb, h, _⟩
    · have h1 := congrArg List.length h
      rw [ballsTo_length, List.length_nil] at h1
      exact ⟨none, 0, by rw [h1]⟩
    · exact ⟨_, cb, by rw [h, ballsTo_length]⟩
  subst hvb
  have OB := Lib.hid ob; have X2 := Lib.hid x2
  clear ob x2 hone
  go_wp2
  obtain ⟨W3, hW3⟩ : ∃ V, V = w2.alloc (.cells #[.slice a g.length c, .slice gb g.length cb, .slice none 0 0] 79) := ⟨_, rfl⟩
  rw [← hW3]
  have hx3 : Ext w2 W3 := by rw [hW3]; exact (Ext.refl _).alloc _
  have h3 := three_cells (by rw [hW3]; exact World.alloc_heap_new w2 _ : W3.heap[w2.heap.size]? = some (.cells #[.slice a g.length c, .slice gb g.length cb, .slice none 0 0] 79 (0, 0)))
  have hs3 : w2.heap.size < W3.heap.size := by rw [hW3]; simp
  have HC := Lib.hid h3; have HX3 := Lib.hid hx3
  clear hW3 hx3 h3
  go_loopw [12] (fun i wr => ∃ (k : Nat) (vf : Value) (vs : List Value), k ≤ g.length ∧ i = .int .i64 k ∧ vs.length = k ∧ OwnRows wr (w2.heap.size + 1) vf vs ∧ Hid (∀ i, i < k → Own wr (w2.heap.size + 1) (vs.getD i undef) (distOf g i)) ∧
    Hid (wr.cell? ⟨w2.heap.size, 0, none⟩ = some (.slice a g.length c) ∧ wr.cell? ⟨w2.heap.size, 1, none⟩ = some (.slice gb g.length cb) ∧ wr.cell? ⟨w2.heap.size, 2, none⟩ = some vf ∧ ∀ i, wr.frozen? ⟨w2.heap.size, i, none⟩ = false) ∧ Ext w2 wr ∧ w2.heap.size < wr.heap.size) (fun i _ => g.length - (intOf i).toNat)
  case atStart => exact ⟨0, .slice none 0 0, [], Nat.zero_le _, rfl, rfl, World.ownsRow_nil _ _ _ _, fun i hi => absurd hi (Nat.not_lt_zero i), HC.out, HX3.out, hs3⟩
  case round =>
    clear HC HX3 hs3
    obtain ⟨k, vf, vs, hk, rfl, hvs, ho, HE, HC, hx, hlt2⟩ := hrel
    have HO := Lib.hid ho; have HX := Lib.hid hx
    clear ho hx
    by_cases hlt : k < g.length
    · obtain ⟨c0, c1, c2, cf⟩ := HC.out
      have d0 : wr.drew.cell? ⟨w2.heap.size, 0, none⟩ = some (.slice a g.length c) := c0
      have d2 : wr.drew.cell? ⟨w2.heap.size, 2, none⟩ = some vf := c2
      have HA : Hid (∀ w5, Ext wr.drew w5 → ∀ vd, Own w5 wr.drew.heap.size vd (distOf g k) → ∀ g' cap w6, OwnRows w6 (w2.heap.size + 1) (.slice (some ⟨g', 0, none⟩) (vs.length + 1) cap) (vs ++ [vd]) →
          (w5.alloc (.cells #[vd] 23)).grownBy w6 vf.ownBlock → w6.cell? ⟨w2.heap.size, 2, none⟩ = some vf ∧ w6.frozen? ⟨w2.heap.size, 2, none⟩ = false ∧
          ∃ V, V = w6.setCell ⟨w2.heap.size, 2, none⟩ (.slice (some ⟨g', 0, none⟩) (vs.length + 1) cap) ∧ OwnRows V (w2.heap.size + 1) (.slice (some ⟨g', 0, none⟩) (vs.length + 1) cap) (vs ++ [vd]) ∧ (∀ i, i < k + 1 → Own V (w2.heap.size + 1) ((vs ++ [vd]).getD i undef) (distOf g i)) ∧
            (V.cell? ⟨w2.heap.size, 0, none⟩ = some (.slice a g.length c) ∧ V.cell? ⟨w2.heap.size, 1, none⟩ = some (.slice gb g.length cb) ∧ V.cell? ⟨w2.heap.size, 2, none⟩ = some (.slice (some ⟨g', 0, none⟩) (vs.length + 1) cap) ∧ ∀ i, V.frozen? ⟨w2.heap.size, i, none⟩ = false) ∧ Ext w2 V ∧ w2.heap.size < V.heap.size) := by
        intro w5 x5 vd od g' cap w6 ho6 hg6
        obtain ⟨c0, c1, c2, cf⟩ := HC.out
        have x6 : Ext wr w5 := Ext.trans (Ext.refl wr).drew x5
        have xa : Ext w5 (w5.alloc (.cells #[vd] 23)) := (Ext.refl _).alloc _
        have oo := HO.out.ext (x6.trans xa)
        have nb : ∀ b, vf.ownBlock = some b → w2.heap.size + 1 ≤ b := fun b hb => (World.ownsRow.lt oo b hb).1
        have hblk : w6.heap[w2.heap.size]? = wr.heap[w2.heap.size]? :=
          (hg6.block _ (Nat.lt_of_lt_of_le hlt2 (x6.trans xa).size) (fun e => by have := nb _ e.symm; omega)).trans ((x6.trans xa).block hlt2)
        have hcell : ∀ i, w6.cell? ⟨w2.heap.size, i, none⟩ = wr.cell? ⟨w2.heap.size, i, none⟩ := fun i => World.cell?_of_block hblk
        have hfroz : ∀ i, w6.frozen? ⟨w2.heap.size, i, none⟩ = wr.frozen? ⟨w2.heap.size, i, none⟩ := fun i => World.frozen?_of_block hblk
        have hsz : w2.heap.size < w6.heap.size := by have h1 := hg6.size; have h2 := (x6.trans xa).size; omega
        have gset := grownBy_set w6 ⟨w2.heap.size, 2, none⟩ (.slice (some ⟨g', 0, none⟩) (vs.length + 1) cap)
        refine ⟨(hcell 2).trans c2, (hfroz 2).trans (cf 2), _, rfl, World.ownsRow.kept ho6 gset (.inr fun e => ?_), fun i hi => ?_, ⟨?_, ?_, ?_, fun i => ?_⟩, (((HX.out.trans x6).trans xa).grown hg6 (fun b hb => by have := nb b hb; omega)).setCell (Nat.le_refl _) _, by simpa using hsz⟩
        · have h1 := (World.ownsRow.lt ho6 _ e).1
          simp at h1
          omega
        · have hrow : ∃ u, (vs ++ [vd]).getD i undef = u ∧ Own (w5.alloc (.cells #[vd] 23)) (w2.heap.size + 1) u (distOf g i) := by
            by_cases h : i < k
            · exact ⟨vs.getD i undef, by simp [List.getElem?_append_left (show i < vs.length by omega)], (HE.out i h).ext (x6.trans xa)⟩
            · obtain rfl : i = k := by omega
              exact ⟨vd, by simp [← hvs], (od.ext xa).mono (by have h : w2.heap.size < wr.drew.heap.size := hlt2; omega)⟩
          obtain ⟨u, e, hu⟩ := hrow
          rw [e]
          have h1 := hu.kept hg6 (hu.apart oo)
          exact h1.kept gset (by
            cases hb : u.ownBlock with
            | none => exact .inl rfl
            | some b => exact .inr fun e => by have h2 := (h1.lt b hb).1; simp at e; omega)
        · rw [World.cell?_setCell_other _ _ _ _ (by simp), hcell]; exact c0
        · rw [World.cell?_setCell_other _ _ _ _ (by simp), hcell]; exact c1
        · exact World.cell?_setCell_same' _ _ _ (by rw [hcell, c2]; rfl)
        · rw [World.frozen?_setCell, hfroz]; exact cf i
      clear c0 c1 c2 cf
      go_wp2
      go_region_law (first
        | (refine step_append_row rfl _ _ rfl (w2.heap.size + 1) vf vs rfl ((HO.out.ext (Ext.trans (Ext.refl wr).drew X5.out)).ext ((Ext.refl _).alloc _)) w5.heap.size _ rfl rfl (one_cell _ _ _) (by omega) (by have h := X5.out.size; have h2 : wr.heap.size ≤ w5.heap.size := h; simp; omega) ?_; intro g' cap w6 ho6 hg6; obtain ⟨q1, q2, q3⟩ := HA.out _ X5.out _ OD.out _ _ _ ho6 hg6; have Q3 := Lib.hid q3; clear q3 ho6 hg6)
        | (go_simp; go_at_call 102; refine (distances_c _ g k _ (HV.out.ext (X2.out.trans HX.out).drew) HG.out hlt).mono ?_; rintro e w5 ⟨vd, rfl, od, x5⟩; have X5 := Lib.hid x5; have OD := Lib.hid od; obtain ⟨gd, cd, rfl⟩ := od.form' (dist_length HG.out hlt); have e0 := (Ext.cell x5 (x := w2.heap.size) (o := 0) hlt2).trans d0; have e2 := (Ext.cell x5 (x := w2.heap.size) (o := 2) hlt2).trans d2; have e3 := (Ext.cell (x5.alloc (.cells #[.slice gd g.length cd] 23)) (x := w2.heap.size) (o := 2) hlt2).trans d2; clear x5 od))
      all_goals
        obtain ⟨V, hV, r1, r2, r3, r4, r5⟩ := Q3.out
        simp only [Exit.inBlock]
        rw [hvs] at hV
        rw [← hV]
        have R1 := Lib.hid r1; have R2 := Lib.hid r2; have R3 := Lib.hid r3; have R4 := Lib.hid r4
        clear hV r1 r2 r3 r4
        go_wp2
        go_roundw
        case rel => exact ⟨k + 1, _, _, by omega, by go_num, by simp [hvs], R1.out, R2.out, R3.out, R4.out, r5⟩
        case measure => simp [intOf]; omega
    · obtain rfl : k = g.length := by omega
      obtain ⟨c0, c1, c2, cf⟩ := HC.out
      go_wp2
      go_ret
      exact ⟨w2.heap.size, .slice gb g.length cb, vf, vs, rfl, X2.out.size, ⟨c0, c1, c2, hlt2, ⟨_, OB.out.ext HX.out⟩, ⟨_, HO.out⟩, hvs, fun i hi => ⟨_, HE.out i hi⟩⟩, X2.out.trans HX.out⟩
end Go.Proofs.Ytpmammklklkheaa
