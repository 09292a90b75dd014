/- The pool of the balls of a set: the program computes the plain list. The condition: the list has at most 2^20 numbers. -/
import Derived.Test.YtbmbgkcnanmbkaaPoolBalls
import Derived.Test.YtbmbgkcnanmbkaaBridge
namespace Go.Proofs.Ytbmbgkcnanmbkaa
open Go.RowKit
open BigFrame
attribute [local go_sem] Oper.semAt_some

theorem Var.book {B : Nat} {w w' : World} {b : Nat} {v : Value} (h : Var w b v) (hB : Book B w w') (hb : b < B) : Var w' b v := by
  obtain ⟨o, ho⟩ : ∃ o, w.heap[b]? = some o := ⟨_, Array.getElem?_eq_getElem h.lt⟩
  have ho' := hB.block _ _ ho (.inl hb)
  refine ⟨?_, ?_, Nat.lt_of_lt_of_le h.lt hB.size⟩
  · rw [← h.cell]; unfold World.cell?; simp only [ho, ho']
  · rw [← h.frozen]; unfold World.frozen?; simp only [ho, ho']
theorem Var.grown {w w' : World} {b : Nat} {v : Value} {row : Option Nat} (h : Var w b v) (hg : w.grownBy w' row) (hne : some b ≠ row) : Var w' b v := by
  have e := hg.block b h.lt hne
  refine ⟨?_, ?_, Nat.lt_of_lt_of_le h.lt hg.size⟩
  · rw [← h.cell]; unfold World.cell?; simp only [e]
  · rw [← h.frozen]; unfold World.frozen?; simp only [e]
theorem leave_list {fn : Func} {p q : Tmp} {v : Value} {b : Bool} {xs : List Int} {r : List Int × Bool} {w W : World} {tmps : Array Value} {ds : List Deferred} (hr : fn.results = #[.tmp p, .tmp q])
    (hp : tmps.getD p undef = v) (hq : tmps.getD q undef = .bool b) (hm : Marks w.heap.size W ds) (ho : Own W w.heap.size v xs) (hx : Ext w W) (hxy : (xs, b) = r) :
    LeavesInM Fence.wide 0 Try.prog fn tmps (fun e w' => ∃ v, e = .returned (listV v r.2) ∧ Own w' w.heap.size v r.1 ∧ Ext w w') ds .returning W := by
  subst hxy
  refine leaves_marks (B := w.heap.size) (listV v b) _ _ hm fun W' hW' => ⟨?_, v, rfl, ho.book hW', hx.book (Nat.le_refl _) hW'⟩
  rw [results_tmp2 hr, hp, hq]
  rfl

set_option maxRecDepth 100000 in
set_option maxHeartbeats 1000000 in
theorem poolBallsI_c (v : Value) (g : List Int) (code : Int) (w : World) (hv : Rd w v g) (hm : g.length ≤ 1048576) :
    Calls Try.prog 43 #[v, .int .i64 code] w fun e w' => ∃ v, e = .returned (listV v (poolBalls g code).2) ∧ Own w' w.heap.size v (poolBalls g code).1 ∧ Ext w w' := by
  obtain ⟨a, c, rfl⟩ := hv.form
  obtain ⟨W, hW⟩ : ∃ W, W = w.alloc (.cells #[.slice a g.length c] 22) := ⟨_, rfl⟩
  have hx0 : Ext w W := by rw [hW]; exact (Ext.refl _).alloc _
  have v0 : Var W w.heap.size (.slice a g.length c) := by rw [hW]; exact Var.new _ _ _
  have HW := Lib.hid hW; have HX0 := Lib.hid hx0; have HV := Lib.hid (hv.ext hx0); have V0 := Lib.hid v0
  have HM := Lib.hid hm
  have c0 := v0.cell
  rw [hW] at c0
  clear hv hW hx0 v0
  refine calls_marks Try.func43 rfl ?_
  simp only [Try.ntmps43, List.size_toArray, List.length_cons, List.length_nil, Nat.reduceAdd, Nat.reduceSub, Array.replicate_succ, Array.replicate_zero, List.push_toArray, List.append_toArray, List.nil_append, List.cons_append]
  cases h0 : fits g code
  · rw [show poolBalls g code = ([], false) from by unfold poolBalls; rw [h0]; rfl]
    go_wp2_with fail
    rw [← HW.out]
    refine (codeFits_c _ _ _ _ HV.out HM.out).mono ?_
    rintro e w1 ⟨rfl, x1⟩
    have X1 := Lib.hid x1; clear x1 c0
    go_wp2
    exact leave_list (xs := []) rfl rfl rfl (Marks.nil _ _) (Own.nil _ _) (HX0.out.trans X1.out) rfl
  · obtain ⟨s, rfl, hG, hsl⟩ := fits_iff.1 h0
    have hl := hG.le
    have HG := Lib.hid hG; clear hG
    have hs4 : s ≤ 4095 := by have := pow_le_12 hl; omega
    rw [show poolBalls g s = (pickTo g s g.length, true) from by unfold poolBalls; rw [h0]; rfl]
    go_wp2_with fail
    rw [← HW.out]
    refine (codeFits_c _ _ _ _ HV.out HM.out).mono ?_
    rintro e w1 ⟨rfl, x1⟩
    have X1 := Lib.hid x1; clear x1 c0
    go_wp2_with fail
    refine (nodes_c _ _).mono ?_
    rintro e w' ⟨rfl, rfl⟩
    obtain ⟨W2, hW2, hx2, hsz2, d0, d1, e0, e1⟩ := two_new w1 (.slice none 0 0) (.int .i64 s) 22 3
    go_wp2
    rw [← hW2]
    have HX2 := Lib.hid hx2
    have l2 : w1.heap.size + 2 ≤ W2.heap.size := by omega
    have HVO : Hid (Var W2 w1.heap.size (.slice none 0 0)) := ⟨d0, e0, by omega⟩
    have HVS : Hid (Var W2 (w1.heap.size + 1) (.int .i64 s)) := ⟨d1, e1, by omega⟩
    clear hx2 d0 d1 e0 e1 hW2 hsz2
    refine wp_range (nodes_iter (w1.heap.size + 1) s g.length hsl (by omega)) rfl nodes_enters rfl
      (fun k W' => ∃ o, Own W' W2.heap.size o (pickTo g s k) ∧ Var W' w1.heap.size o ∧ Var W' (w1.heap.size + 1) (.int .i64 s) ∧ Ext w1 W' ∧ W2.heap.size ≤ W'.heap.size)
      (fun _ _ => False)
      ?hI ?hIx ?hKi ?h0 ?hskip ?hround ?hdone ?hstop
    case hI =>
      rintro j W' W'' hB ⟨o, h1, h2, h3, h4, h5⟩
      exact ⟨o, h1.book hB, h2.book hB (by omega), h3.book hB (by omega), h4.book (by omega) hB, Nat.le_trans h5 hB.size⟩
    case hIx => exact fun _ _ _ _ h => h
    case hKi =>
      rintro j W' ⟨o, _, _, h3, _⟩
      exact h3.cell
    case h0 => exact ⟨_, Own.nil _ _, HVO.out, HVS.out, HX2.out, Nat.le_refl _⟩
    case hskip =>
      rintro j W' hj hp ⟨o, h1, h2⟩
      exact ⟨o, by rw [pickTo_skip hp]; exact h1, h2⟩
    case hround =>
      rintro l j W' hj hp ⟨o, h1, h2, h3, h4, h5⟩ hsz
      gi_wp2
      refine ⟨KeepsFrom.refl _ _, fun W'' hB => ?_⟩
      have O1 : Hid (Own W'' W2.heap.size o (pickTo g s j)) := h1.book hB
      have V1 : Hid (Var W'' w1.heap.size o) := h2.book hB (by omega)
      have V2 : Hid (Var W'' (w1.heap.size + 1) (.int .i64 s)) := h3.book hB (by omega)
      have X4 : Hid (Ext w1 W'') := h4.book (by omega) hB
      have l5 : W2.heap.size ≤ W''.heap.size := Nat.le_trans h5 hB.size
      have HP := Lib.hid hp
      have HLn := Lib.hid (pickTo_length g s j)
      clear h1 h2 h3 h4 h5 hB hp hsz
      have VG := Lib.hid (V0.out.ext (X1.out.trans X4.out))
      have HB := Lib.hid fun w => ball_c (.slice a g.length c) g j w
      have c1 : W''.drew.cell? ⟨w1.heap.size, 0, none⟩ = some o := V1.out.cell
      have c2 : W''.drew.cell? ⟨w.heap.size, 0, none⟩ = some (.slice a g.length c) := VG.out.cell
      gi_wp2
      refine wpIn_region_plain (by kernel_rfl) (by kernel_rfl) (by rintro ⟨a, w, h⟩; exact h) ?_
      refine wpAny_take (i := 2) (v := .int .i64 (j : Nat)) rfl (by kernel_rfl) (by kernel_rfl) (by kernel_rfl) (fun _ _ _ h => h) (Or.inl ⟨by rfl, ?_⟩) ?_
      · intro w; go_simp
      have HA : Hid (∀ w5, Ext W''.drew w5 → ∀ v' w3, Own w3 W2.heap.size v' (pickTo g s j ++ [((ballN g j : Nat) : Int)]) → (w5.alloc (.cells #[.int .i64 (ballN g j : Nat)] 3)).grownBy w3 o.ownBlock →
          (∃ gg cap, v' = .slice (some ⟨gg, 0, none⟩) ((pickTo g s j).length + 1) cap) ∧ Var w3 w1.heap.size o ∧
          (KeepsFrom W2.heap.size W'' (w3.setCell ⟨w1.heap.size, 0, none⟩ v') ∧ ∃ o, Own (w3.setCell ⟨w1.heap.size, 0, none⟩ v') W2.heap.size o (pickTo g s (j + 1)) ∧ Var (w3.setCell ⟨w1.heap.size, 0, none⟩ v') w1.heap.size o ∧ Var (w3.setCell ⟨w1.heap.size, 0, none⟩ v') (w1.heap.size + 1) (.int .i64 s) ∧ Ext w1 (w3.setCell ⟨w1.heap.size, 0, none⟩ v') ∧ W2.heap.size ≤ (w3.setCell ⟨w1.heap.size, 0, none⟩ v').heap.size)) := by
        intro w5 x5 v' w3 ho3 hg3
        have x6 : Ext W'' w5 := Ext.trans (Ext.refl W'').drew x5
        have oo := O1.out.ext x6
        have nb : ∀ b, o.ownBlock = some b → W2.heap.size ≤ b := fun b hb => (oo.lt b hb).1
        have xa : Ext w5 (w5.alloc (.cells #[.int .i64 (ballN g j : Nat)] 3)) := (Ext.refl _).alloc _
        have vv : Var w3 w1.heap.size o := ((V1.out.ext x6).ext xa).grown hg3 (fun e => by have := nb _ e.symm; omega)
        have vs : Var w3 (w1.heap.size + 1) (.int .i64 s) := ((V2.out.ext x6).ext xa).grown hg3 (fun e => by have := nb _ e.symm; omega)
        have hnb : v'.ownBlock ≠ some w1.heap.size := fun e => by have := (ho3.lt _ e).1; omega
        have sz : W2.heap.size ≤ w3.heap.size := by have h1 := hg3.size; have h2 := x6.size; simp at h1; omega
        refine ⟨?_, vv, ?_, v', ?_, vv.set v', vs.other (by omega) v', ?_, by simpa using sz⟩
        · rcases ho3.get with ⟨_, h⟩ | ⟨gg, cap, h, _⟩
          · simp at h
          · exact ⟨gg, cap, by rw [h]; simp⟩
        · refine ((KeepsFrom.of_ext (x6.trans xa)).trans ((KeepsOthers.of_grownBy hg3 fun k u ek hk => ?_).from _)).trans (KeepsFrom.setCell' _ _ _ _)
          rcases (oo.alloc (.cells #[.int .i64 (ballN g j : Nat)] 3)).2 with ⟨h, _⟩ | ⟨gg, cap, cur, h, _, hgb, _⟩
          · rw [h] at ek; simp [Value.ownBlock] at ek
          · rw [h] at ek
            obtain rfl : gg = k := by simpa [Value.ownBlock] using ek
            rw [hgb] at hk; cases hk; rfl
        · rw [pickTo_next HP.out]
          exact ho3.kept (grownBy_setCell' w3 w1.heap.size v') (.inr hnb)
        · exact (((X4.out.trans x6).trans xa).grown hg3 (fun k hk => by have := nb k hk; omega)).setCell (Nat.le_refl _) _
      refine wpAny_ready (rs := [0, 1]) (by kernel_rfl) (by simp) ?_
      refine AllReady.cons rfl (fun K hK => ?_) ?_
      · go_simp
        refine hK _ _ ?_
        clear hK K
        refine wpAny_ready (rs := [1]) (by kernel_rfl) (by simp) ?_
        refine AllReady.cons rfl (fun K hK => ?_) ?_
        · go_simp
          refine hK _ _ ?_
          clear hK K
          refine wpAny_ready (rs := [3]) (by kernel_rfl) (by simp) ?_
          refine AllReady.cons rfl (fun K hK => ?_) ?_
          · go_simp
            go_at_call 92
            refine (HB.out _ (HV.out.ext ((X1.out.trans X4.out).drew)) HG.out hj).mono ?_
            rintro e w5 ⟨rfl, x5⟩
            have X5 := Lib.hid x5
            have c3 := (Ext.cell x5 (x := w1.heap.size) (o := 0) V1.out.lt).trans c1
            have c4 := (Ext.cell x5 (x := w.heap.size) (o := 0) VG.out.lt).trans c2
            have c5 := (Ext.cell (x5.alloc (.cells #[.int .i64 (ballN g j : Nat)] 3)) (x := w1.heap.size) (o := 0) V1.out.lt).trans c1
            clear x5
            refine hK _ _ ?_
            clear hK K
            refine wpAny_ready (rs := [4]) (by kernel_rfl) (by simp) ?_
            refine AllReady.cons rfl (fun K hK => ?_) ?_
            · go_simp
              refine hK _ _ ?_
              clear hK K
              refine wpAny_ready (rs := [5]) (by kernel_rfl) (by simp) ?_
              refine AllReady.cons rfl (fun K hK => ?_) ?_
              · refine step_append_int rfl _ _ rfl W2.heap.size o (pickTo g s j) rfl ((O1.out.ext (Ext.trans (Ext.refl W'').drew X5.out)).alloc _) w5.heap.size (ballN g j : Nat) rfl (one_cell _ _ _) (by have := HLn.out; omega) (by have h := X5.out.size; have h2 : W''.heap.size ≤ w5.heap.size := h; simp; omega) ?_
                intro v' w3 ho3 hg3 hn3
                obtain ⟨⟨gg, cap, rfl⟩, d1, d2⟩ := HA.out _ X5.out _ _ ho3 hg3
                obtain ⟨d3, d4, -⟩ := d1
                have D2 := Lib.hid d2
                clear ho3 hg3 hn3 d2
                refine hK _ _ ?_
                clear hK K
                refine wpAny_ready (rs := [6]) (by kernel_rfl) (by simp) ?_
                refine AllReady.cons rfl (fun K hK => ?_) ?_
                · go_simp
                  refine hK _ _ ?_
                  clear hK K
                  refine wpAny_done (by kernel_rfl) ?_ _
                  exact D2.out
                exact AllReady.nil
              exact AllReady.nil
            exact AllReady.nil
          exact AllReady.nil
        exact AllReady.nil
      refine AllReady.cons rfl (fun K hK => ?_) ?_
      · go_simp
        refine hK _ _ ?_
        clear hK K
        refine wpAny_ready (rs := [0, 3]) (by kernel_rfl) (by simp) ?_
        refine AllReady.cons rfl (fun K hK => ?_) ?_
        · go_simp
          refine hK _ _ ?_
          clear hK K
          refine wpAny_ready (rs := [3]) (by kernel_rfl) (by simp) ?_
          refine AllReady.cons rfl (fun K hK => ?_) ?_
          · go_simp
            go_at_call 92
            refine (HB.out _ (HV.out.ext ((X1.out.trans X4.out).drew)) HG.out hj).mono ?_
            rintro e w5 ⟨rfl, x5⟩
            have X5 := Lib.hid x5
            have c3 := (Ext.cell x5 (x := w1.heap.size) (o := 0) V1.out.lt).trans c1
            have c4 := (Ext.cell x5 (x := w.heap.size) (o := 0) VG.out.lt).trans c2
            have c5 := (Ext.cell (x5.alloc (.cells #[.int .i64 (ballN g j : Nat)] 3)) (x := w1.heap.size) (o := 0) V1.out.lt).trans c1
            clear x5
            refine hK _ _ ?_
            clear hK K
            refine wpAny_ready (rs := [4]) (by kernel_rfl) (by simp) ?_
            refine AllReady.cons rfl (fun K hK => ?_) ?_
            · go_simp
              refine hK _ _ ?_
              clear hK K
              refine wpAny_ready (rs := [5]) (by kernel_rfl) (by simp) ?_
              refine AllReady.cons rfl (fun K hK => ?_) ?_
              · refine step_append_int rfl _ _ rfl W2.heap.size o (pickTo g s j) rfl ((O1.out.ext (Ext.trans (Ext.refl W'').drew X5.out)).alloc _) w5.heap.size (ballN g j : Nat) rfl (one_cell _ _ _) (by have := HLn.out; omega) (by have h := X5.out.size; have h2 : W''.heap.size ≤ w5.heap.size := h; simp; omega) ?_
                intro v' w3 ho3 hg3 hn3
                obtain ⟨⟨gg, cap, rfl⟩, d1, d2⟩ := HA.out _ X5.out _ _ ho3 hg3
                obtain ⟨d3, d4, -⟩ := d1
                have D2 := Lib.hid d2
                clear ho3 hg3 hn3 d2
                refine hK _ _ ?_
                clear hK K
                refine wpAny_ready (rs := [6]) (by kernel_rfl) (by simp) ?_
                refine AllReady.cons rfl (fun K hK => ?_) ?_
                · go_simp
                  refine hK _ _ ?_
                  clear hK K
                  refine wpAny_done (by kernel_rfl) ?_ _
                  exact D2.out
                exact AllReady.nil
              exact AllReady.nil
            exact AllReady.nil
          exact AllReady.nil
        refine AllReady.cons rfl (fun K hK => ?_) ?_
        · go_simp
          go_at_call 92
          refine (HB.out _ (HV.out.ext ((X1.out.trans X4.out).drew)) HG.out hj).mono ?_
          rintro e w5 ⟨rfl, x5⟩
          have X5 := Lib.hid x5
          have c3 := (Ext.cell x5 (x := w1.heap.size) (o := 0) V1.out.lt).trans c1
          have c4 := (Ext.cell x5 (x := w.heap.size) (o := 0) VG.out.lt).trans c2
          have c5 := (Ext.cell (x5.alloc (.cells #[.int .i64 (ballN g j : Nat)] 3)) (x := w1.heap.size) (o := 0) V1.out.lt).trans c1
          clear x5
          refine hK _ _ ?_
          clear hK K
          refine wpAny_ready (rs := [0, 4]) (by kernel_rfl) (by simp) ?_
          refine AllReady.cons rfl (fun K hK => ?_) ?_
          · go_simp
            refine hK _ _ ?_
            clear hK K
            refine wpAny_ready (rs := [4]) (by kernel_rfl) (by simp) ?_
            refine AllReady.cons rfl (fun K hK => ?_) ?_
            · go_simp
              refine hK _ _ ?_
              clear hK K
              refine wpAny_ready (rs := [5]) (by kernel_rfl) (by simp) ?_
              refine AllReady.cons rfl (fun K hK => ?_) ?_
              · refine step_append_int rfl _ _ rfl W2.heap.size o (pickTo g s j) rfl ((O1.out.ext (Ext.trans (Ext.refl W'').drew X5.out)).alloc _) w5.heap.size (ballN g j : Nat) rfl (one_cell _ _ _) (by have := HLn.out; omega) (by have h := X5.out.size; have h2 : W''.heap.size ≤ w5.heap.size := h; simp; omega) ?_
                intro v' w3 ho3 hg3 hn3
                obtain ⟨⟨gg, cap, rfl⟩, d1, d2⟩ := HA.out _ X5.out _ _ ho3 hg3
                obtain ⟨d3, d4, -⟩ := d1
                have D2 := Lib.hid d2
                clear ho3 hg3 hn3 d2
                refine hK _ _ ?_
                clear hK K
                refine wpAny_ready (rs := [6]) (by kernel_rfl) (by simp) ?_
                refine AllReady.cons rfl (fun K hK => ?_) ?_
                · go_simp
                  refine hK _ _ ?_
                  clear hK K
                  refine wpAny_done (by kernel_rfl) ?_ _
                  exact D2.out
                exact AllReady.nil
              exact AllReady.nil
            exact AllReady.nil
          refine AllReady.cons rfl (fun K hK => ?_) ?_
          · go_simp
            refine hK _ _ ?_
            clear hK K
            refine wpAny_ready (rs := [0]) (by kernel_rfl) (by simp) ?_
            refine AllReady.cons rfl (fun K hK => ?_) ?_
            · go_simp
              refine hK _ _ ?_
              clear hK K
              refine wpAny_ready (rs := [5]) (by kernel_rfl) (by simp) ?_
              refine AllReady.cons rfl (fun K hK => ?_) ?_
              · refine step_append_int rfl _ _ rfl W2.heap.size o (pickTo g s j) rfl ((O1.out.ext (Ext.trans (Ext.refl W'').drew X5.out)).alloc _) w5.heap.size (ballN g j : Nat) rfl (one_cell _ _ _) (by have := HLn.out; omega) (by have h := X5.out.size; have h2 : W''.heap.size ≤ w5.heap.size := h; simp; omega) ?_
                intro v' w3 ho3 hg3 hn3
                obtain ⟨⟨gg, cap, rfl⟩, d1, d2⟩ := HA.out _ X5.out _ _ ho3 hg3
                obtain ⟨d3, d4, -⟩ := d1
                have D2 := Lib.hid d2
                clear ho3 hg3 hn3 d2
                refine hK _ _ ?_
                clear hK K
                refine wpAny_ready (rs := [6]) (by kernel_rfl) (by simp) ?_
                refine AllReady.cons rfl (fun K hK => ?_) ?_
                · go_simp
                  refine hK _ _ ?_
                  clear hK K
                  refine wpAny_done (by kernel_rfl) ?_ _
                  exact D2.out
                exact AllReady.nil
              exact AllReady.nil
            exact AllReady.nil
          exact AllReady.nil
        exact AllReady.nil
      exact AllReady.nil
    case hdone =>
      rintro D' W' hD ⟨o, h1, h2, h3, h4, h5⟩ hDD
      have H1 := Lib.hid h1; have H4 := Lib.hid h4; have HD := Lib.hid hDD
      have c6 := h2.cell
      clear h1 h2 h3 h4 h5 hDD
      have hle : w.heap.size ≤ W2.heap.size := ((HX0.out.trans X1.out).trans HX2.out).size
      go_wp2
      exact leave_list (v := o) (xs := pickTo g s g.length) rfl rfl rfl ((Marks.nil _ _).cons (n := W2.heap.size) (fun k hk => by obtain ⟨_, hk, _⟩ := hk; cases hk) hD (Nat.le_trans hle hD) HD.out) (H1.out.mono hle) ((HX0.out.trans X1.out).trans H4.out) rfl
    case hstop => exact fun _ _ _ _ h _ => h.elim
end Go.Proofs.Ytbmbgkcnanmbkaa
