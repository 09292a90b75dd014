/- Which lists are graphs: the program agrees with the plain function. The condition: the list has at most 2^20 numbers. -/
import Derived.Test.YtpmammklklkheaaGraph
namespace Go.Proofs.Ytpmammklklkheaa
open Go.RowKit
open BigFrame
attribute [local go_sem] Oper.semAt_some

/-- A result that lies in a variable of its own. -/
theorem results_cell {fn : Func} {p : Tmp} {b : Nat} {x : Bool} (h : fn.results = #[.cell p 4]) (tmps : Array Value) (W : World)
    (hp : tmps.getD p undef = .pointer (some ⟨b, 0, none⟩)) (hc : W.cell? ⟨b, 0, none⟩ = some (.bool x)) : (results fn tmps).run Try.prog W = .ok (.bool x) W := by
  have hp' : tmps[p]?.getD undef = .pointer (some ⟨b, 0, none⟩) := by simpa using hp
  simp only [results, h]
  simp [go_sem, hp', hc]
theorem results_cell_int {fn : Func} {p : Tmp} {b : Nat} {x : Int} (h : fn.results = #[.cell p 3]) (tmps : Array Value) (W : World)
    (hp : tmps.getD p undef = .pointer (some ⟨b, 0, none⟩)) (hc : W.cell? ⟨b, 0, none⟩ = some (.int .i64 x)) : (results fn tmps).run Try.prog W = .ok (.int .i64 x) W := by
  have hp' : tmps[p]?.getD undef = .pointer (some ⟨b, 0, none⟩) := by simpa using hp
  simp only [results, h]
  simp [go_sem, hp', hc]
/-- The way out where the result is a bool in a variable of its own. -/
theorem leave_bool {fn : Func} {p : Tmp} {b : Nat} {x y : Bool} {w W : World} {tmps : Array Value} {ds : List Deferred} (hr : fn.results = #[.cell p 4])
    (hp : tmps.getD p undef = .pointer (some ⟨b, 0, none⟩)) (hc : W.cell? ⟨b, 0, none⟩ = some (.bool x)) (hm : Marks w.heap.size W ds) (hx : Ext w W) (hxy : x = y) :
    LeavesInM Fence.wide 0 Try.prog fn tmps (fun e w' => e = .returned (.bool y) ∧ Ext w w') ds .returning W :=
  leaves_marks (B := w.heap.size) (.bool x) _ _ hm fun _ hW' => ⟨results_cell hr _ _ hp (hW'.cell hc), ret_bool hxy, hx.book (Nat.le_refl _) hW'⟩
theorem cell_set {W : World} {b : Nat} {u v : Value} (h : W.cell? ⟨b, 0, none⟩ = some u) : (W.setCell ⟨b, 0, none⟩ v).cell? ⟨b, 0, none⟩ = some v :=
  World.cell?_setCell_same' _ _ _ (by rw [h]; rfl)

set_option maxRecDepth 100000 in
set_option maxHeartbeats 1000000 in
theorem graphInI_c (v : Value) (g : List Int) (w : World) (hv : Rd w v g) (hm : g.length ≤ 1048576) :
    Calls Try.prog 74 #[v] w fun e w' => e = .returned (.bool (graphIn g)) ∧ Ext w w' := by
  obtain ⟨a, c, rfl⟩ := hv.form
  have HV := Lib.hid hv; clear hv
  refine calls_marks Try.func74 rfl ?_
  simp only [Try.ntmps74, List.size_toArray, List.length_cons, List.length_nil, Nat.reduceAdd, Nat.reduceSub, Array.replicate_succ, Array.replicate_zero, List.push_toArray, List.append_toArray, List.nil_append, List.cons_append]
  cases h0 : inB 1 g.length 12
  · go_wp2_with (go_at_call 100; refine (in_c _ _ _ _).mono ?_; rintro e w' ⟨rfl, rfl⟩)
    obtain ⟨W, hW, hx, hsz, c0, c1, f0, f1⟩ := two_new w (.slice a g.length c) (.bool false) 23 4
    rw [← hW]
    exact leave_bool rfl rfl c1 (Marks.nil _ _) hx (graphIn_len h0).symm
  · obtain ⟨W, hW, hx, hsz, c0, c1, f0, f1⟩ := two_new w (.slice a g.length c) (.bool false) 23 4
    have h0' := inB_iff.1 h0
    have hn : g.length ≤ 12 := by omega
    have H0 := Lib.hid h0
    clear h0'
    go_wp2_with (go_at_call 100; refine (in_c _ _ _ _).mono ?_; rintro e w' ⟨rfl, rfl⟩)
    rw [← hW]
    have HW := Lib.hid hW; clear hW
    -- the variables of the call's own
    have hVW : Hid (Rd W (.slice a g.length c) g) := HV.out.ext hx
    have HX0 := Lib.hid hx; clear hx
    have hs0 : Hid (W.heap.size = w.heap.size + 2) := hsz; clear hsz
    obtain ⟨B0, hB0⟩ : ∃ b, b = w.heap.size := ⟨_, rfl⟩
    rw [← hB0] at c0 c1 f0 f1 ⊢
    have HB0 := Lib.hid hB0; clear hB0
    have HC0 := Lib.hid (And.intro c0 (And.intro c1 (And.intro f0 f1))); clear c0 c1 f0 f1
    go_loopw [3, 4, 14] (fun _ _ i wr => ∃ k : Nat, k ≤ g.length ∧ i = .int .i64 k ∧ (∀ j, j < k → rowOk g j = true) ∧ Ext W wr) (fun _ _ i _ => g.length - (intOf i).toNat)
    case atStart => exact ⟨0, Nat.zero_le _, rfl, by simp, Ext.refl _⟩
    case round =>
      obtain ⟨k, hk, rfl, hj, hx⟩ := hrel
      have HJ := Lib.hid hj; clear hj
      have HX := Lib.hid hx; clear hx
      obtain ⟨c0, c1, f0, f1⟩ := HC0.out
      have hlt0 : B0 + 1 < W.heap.size := by have := hs0.out; have := HB0.out; omega
      rw [← HX.out.cell (by omega)] at c0 c1
      rw [← HX.out.frozen (by omega)] at f0 f1
      by_cases hlt : k < g.length
      · obtain ⟨b, o, rfl, -, -, hc⟩ := hVW.out.atI hlt
        replace hc := hc _ HX.out
        cases hs : setB (getI g k) g.length
        · have HS := hs
          go_wp2_with (first | (go_at_call 76; refine (isSet_c _ _ (by omega) _).mono ?_; rintro e w' ⟨rfl, rfl⟩))
          exact leave_bool rfl rfl (cell_set c1) (Marks.nil _ _) ((HX0.out.trans HX.out).setCell (by have := HB0.out; simp; omega) _) (graphIn_row hlt (by unfold rowOk; rw [HS]; rfl)).symm
        · obtain ⟨hr1, hr2⟩ := row_of_set hs
          have hr3 : gN g k < 2 ^ 62 := Nat.lt_of_lt_of_le hr2 (Nat.pow_le_pow_right (by omega) (by omega))
          have HS := Lib.hid hs
          rw [hr1] at hs hc
          have HR1 := Lib.hid hr1
          clear hr1 hr2
          cases hb : (gN g k).testBit k
          · have HB := Lib.hid hb
            go_wp2_with (first | (go_at_call 76; refine (isSet_c _ _ (by omega) _).mono ?_; rintro e w' ⟨rfl, rfl⟩) | (go_at_call 110; refine (has_c _ _ hr3 (by omega) _).mono ?_; rintro e w' ⟨rfl, rfl⟩))
            go_roundw
            case rel => exact ⟨k + 1, by omega, by go_num, fun j hj => by
              by_cases h : j = k
              · subst h; unfold rowOk; rw [HS.out, HB.out]; rfl
              · exact HJ.out j (by omega), HX.out⟩
            case measure => simp [intOf]; omega
          · have HB := Lib.hid hb
            go_wp2_with (first | (go_at_call 76; refine (isSet_c _ _ (by omega) _).mono ?_; rintro e w' ⟨rfl, rfl⟩) | (go_at_call 110; refine (has_c _ _ hr3 (by omega) _).mono ?_; rintro e w' ⟨rfl, rfl⟩))
            exact leave_bool rfl rfl (cell_set c1) (Marks.nil _ _) ((HX0.out.trans HX.out).setCell (by have := HB0.out; simp; omega) _) (graphIn_row hlt (by unfold rowOk; rw [HS.out, HB.out]; rfl)).symm
      · obtain rfl : k = g.length := by omega
        have HR : Hid (∀ i, i < g.length → getI g i = (gN g i : Int) ∧ gN g i < 2 ^ g.length) := fun i hi => by
          have := HJ.out i hi
          unfold rowOk at this
          simp only [Bool.and_eq_true] at this
          exact row_of_set this.1
        go_wp2
        -- the second loop: each neighbour of each node
        refine wp_loop_marks [5, 6, 7, 32, 33, 34, 35, 36, 37, 38, 39, 40, 41, 42, 43, 44, 45, 46, 47]
          (fun u ds wr => ∃ k : Nat, k ≤ g.length ∧ u 32 = .int .i64 k ∧ (∀ j, j < k → ∀ m, m < g.length → (gN g j).testBit m = true → (gN g m).testBit j = true) ∧ Ext W wr ∧ Marks w.heap.size wr ds)
          (fun u _ => g.length - (intOf (u 32)).toNat) ⟨0, Nat.zero_le _, rfl, by simp, HX.out, Marks.nil _ _⟩ ?_
        rintro u ds w2 ⟨k, hk, hu, hj, hx, hm⟩ K HK
        simp only [fillFrom, List.contains_cons, List.contains_nil, Nat.reduceBEq, Nat.reduceAdd, Bool.or_false, Bool.or_true, if_true, if_false, Bool.false_eq_true, hu] at ⊢
        have HU := Lib.hid hu; clear hu c0 c1 f0 f1
        have HM := Lib.hid hm; clear hm
        have HJ2 := Lib.hid hj; clear hj
        have HX2 := Lib.hid hx; clear hx HX
        obtain ⟨c0, c1, f0, f1⟩ := HC0.out
        rw [← HX2.out.cell (by omega)] at c0 c1
        rw [← HX2.out.frozen (by omega)] at f0 f1
        by_cases hlt : k < g.length
        · obtain ⟨b, o, rfl, -, hbW, hc⟩ := hVW.out.atI hlt
          replace hc := hc _ HX2.out
          obtain ⟨r1, r2⟩ := HR.out k hlt
          rw [r1] at hc
          have R2 := Lib.hid r2
          clear r1 r2
          obtain ⟨W2, hW2, hx2, hsz2, d0, d1, e0, e1⟩ := two_new w2 (.int .i64 k) (.int .i64 (gN g k)) 3 3
          go_wp2_with (first | (go_at_call 79; refine (nodes_c _ _).mono ?_; rintro e w' ⟨rfl, rfl⟩))
          rw [← hW2]
          refine wp_range (nodes_iter (w2.heap.size + 1) (gN g k) g.length R2.out (by omega)) rfl nodes_enters rfl
            (fun j W' => (∀ m, m < j → (gN g k).testBit m = true → (gN g m).testBit k = true) ∧ Ext W2 W' ∧ Marks w.heap.size W' ds)
            (fun c W' => c = .ret ∧ (∃ m, (gN g k).testBit m = true ∧ (gN g m).testBit k = false) ∧ Ext w W' ∧ Marks w.heap.size W' ds ∧ W'.cell? ⟨B0 + 1, 0, none⟩ = some (.bool false))
            ?hI ?hIx ?hKi ?h0 ?hskip ?hround ?hdone ?hstop
          case hI =>
            rintro j W' W'' hB ⟨h1, h2, h3⟩
            exact ⟨h1, h2.book (Nat.le_refl _) hB, h3.book hB (fun k hk => by have := HM.out.lt k hk; omega)⟩
          case hIx =>
            rintro cc W' W'' hB ⟨h1, h2, h3, h4, h5⟩
            exact ⟨h1, h2, h3.book (by have := hx2.size; have := HX2.out.size; have := hs0.out; omega) hB, h4.book hB (fun k hk => by have := HM.out.lt k hk; omega), hB.cell h5⟩
          case hKi =>
            rintro j W' ⟨_, h2, _⟩
            exact (h2.cell (by omega)).trans d1
          case h0 => exact ⟨by simp, Ext.refl _, HM.out.ext hx2⟩
          case hskip =>
            rintro j W' hj hp ⟨h1, h2, h3⟩
            exact ⟨fun m hm hb => by
              by_cases h : m = j
              · subst h; rw [hp] at hb; cases hb
              · exact h1 m (by omega) hb, h2, h3⟩
          case hround =>
            rintro l j W' hj hp ⟨h1, h2, h3⟩ hsz
            have H1 := Lib.hid h1; have H2 := Lib.hid h2; have H3 := Lib.hid h3; clear h1 h2 h3
            gi_wp2
            refine ⟨KeepsFrom.refl _ _, fun W'' hB => ?_⟩
            have hE : Hid (Ext W2 W'') := H2.out.book (Nat.le_refl _) hB
            have hM3 : Hid (Marks w.heap.size W'' ds) := H3.out.book hB (fun k hk => by have := HM.out.lt k hk; omega)
            clear hB H2 H3
            have E2 : Hid (Ext W W'') := (HX2.out.trans hx2).trans hE.out
            obtain ⟨r1, r2⟩ := HR.out j hj
            have r3 : gN g j < 2 ^ 62 := Nat.lt_of_lt_of_le r2 (Nat.pow_le_pow_right (by omega) (by omega))
            have k1 : ∀ u, (clip W'' u).cell? ⟨B0, 0, none⟩ = some (.slice (some ⟨b, o, none⟩) g.length c) := fun u => ((E2.out.trans (clip_ext W'' u)).cell (by omega)).trans HC0.out.1
            have k2 : ∀ u, (clip W'' u).cell? ⟨w2.heap.size, 0, none⟩ = some (.int .i64 k) := fun u => ((hE.out.trans (clip_ext W'' u)).cell (by omega)).trans d0
            have k3 : ∀ u, (clip W'' u).cell? ⟨b, o + j, none⟩ = some (.int .i64 (gN g j)) := fun u => by
              obtain ⟨b', o', he, -, -, hc⟩ := hVW.out.atI hj
              obtain ⟨rfl, rfl⟩ : b = b' ∧ o = o' := by simpa using he
              rw [← r1]; exact hc _ (E2.out.trans (clip_ext W'' u))
            clear r1 r2
            have HL := Lib.hid (has_c (gN g j) k r3 (by omega))
            clear c0 c1 f0 f1 d0 d1 e0 e1 hc
            cases hb : (gN g j).testBit k
            · have HB := Lib.hid hb
              gi_wp2
              refine wpIn_quiet (ro := some l) (C := fun w' => ∃ u, w' = clip W'' u) (by kernel_rfl) (by kernel_rfl) (by kernel_rfl) ⟨_, (clip_of (Ext.refl W'').drew).symm⟩ ?_
              repeat (go_big_quiet_step ((go_at_call 110; exact Calls.clip_same (HL.out _))))
              refine wpQuiet_nil ?_
              rintro _ ⟨u', rfl⟩
              have q1 : (clip W'' u').cell? ⟨B0 + 1, 0, none⟩ = some (.bool false) := ((E2.out.trans (clip_ext W'' u')).cell (by omega)).trans HC0.out.2.1
              have q2 : (clip W'' u').frozen? ⟨B0 + 1, 0, none⟩ = false := ((E2.out.trans (clip_ext W'' u')).frozen (by omega)).trans HC0.out.2.2.2
              gi_wp2
              exact ⟨(KeepsFrom.of_ext (clip_ext W'' u')).trans (KeepsFrom.setCell' _ _ _ _), rfl, ⟨j, hp, HB.out⟩, ((HX0.out.trans E2.out).trans (clip_ext W'' u')).setCell (by have := HB0.out; simp; omega) _, (hM3.out.ext (clip_ext W'' u')).setCell _ _, cell_set q1⟩
            · have HB := Lib.hid hb
              gi_wp2
              refine wpIn_quiet (ro := some l) (C := fun w' => ∃ u, w' = clip W'' u) (by kernel_rfl) (by kernel_rfl) (by kernel_rfl) ⟨_, (clip_of (Ext.refl W'').drew).symm⟩ ?_
              repeat (go_big_quiet_step ((go_at_call 110; exact Calls.clip_same (HL.out _))))
              refine wpQuiet_nil ?_
              rintro _ ⟨u', rfl⟩
              gi_wp2
              exact ⟨KeepsFrom.of_ext (clip_ext W'' u'), fun m hm hb => by
                by_cases h : m = j
                · subst h; exact HB.out
                · exact H1.out m (by omega) hb, hE.out.trans (clip_ext W'' u'), hM3.out.ext (clip_ext W'' u')⟩
          case hdone =>
            rintro D W' hD ⟨h1, h2, h3⟩ hDD
            have H1 := Lib.hid h1; have H2 := Lib.hid h2; have H3 := Lib.hid h3; have HD := Lib.hid hDD; clear h1 h2 h3 hDD
            go_wp2
            refine HK.out _ _ _ rfl ⟨k + 1, by omega, by go_num, fun i hi m hm hb => ?_, (HX2.out.trans hx2).trans H2.out, H3.out.cons (n := W2.heap.size) (fun k hk => by have := HM.out.lt k hk; omega) hD (by have := hx2.size; have := HX2.out.size; have := hs0.out; omega) HD.out⟩ (by simp [intOf, HU.out]; omega)
            by_cases h : i = k
            · subst h; exact H1.out m hm hb
            · exact HJ2.out i (by omega) m hm hb
          case hstop =>
            rintro D cc W' hD ⟨rfl, ⟨m, hm1, hm2⟩, h3, h4, h5⟩ hDD
            go_wp2
            exact leave_bool rfl rfl h5 (h4.cons (n := W2.heap.size) (fun k hk => by have := HM.out.lt k hk; omega) hD (by have := hx2.size; have := HX2.out.size; have := hs0.out; omega) hDD) h3 (graphIn_sym (i := k) (k := m) (by rw [hm1, hm2]; decide)).symm
        · obtain rfl : k = g.length := by omega
          go_wp2
          exact leave_bool rfl rfl (cell_set c1) (HM.out.setCell _ _) ((HX0.out.trans HX2.out).setCell (by have := HB0.out; simp; omega) _) (graphIn_of H0.out HJ.out fun i hi k hk => by
            cases h1 : (gN g i).testBit k <;> cases h2 : (gN g k).testBit i
            · rfl
            · exact absurd (HJ2.out k hk i hi h2) (by rw [h1]; decide)
            · exact absurd (HJ2.out i hi k hk h1) (by rw [h2]; decide)
            · rfl).symm
end Go.Proofs.Ytpmammklklkheaa
