/- What the walks of this seat rest on, one part: plain facts, and contracts of the functions that they reach. Each states its own condition. -/
import Derived.Test.YtkmfmhckpfomeaaGreatDoorB4
import Derived.Test.YtkmfmhckpfomeaaGreatDoorB3
set_option linter.all false
set_option linter.unusedSimpArgs false
set_option linter.unusedVariables false
/- Which lists are graphs: the program agrees with the plain function. The condition: the list has at most 2^20 numbers. -/
namespace Go.Proofs.YtkmfmhckpfomeaaGreatDoor
open Go.RowKit
open BigFrame
attribute [local go_sem] Oper.semAt_some

/-- A result that lies in a variable of its own. -/
theorem results_cell {fn : Func} {p : Tmp} {b : Nat} {x : Bool} (h : fn.results = #[.cell p 4]) (tmps : Array Value) (W : World)
    (hp : tmps.getD p undef = .pointer (some ⟨b, 0, none⟩)) (hc : W.cell? ⟨b, 0, none⟩ = some (.bool x)) : (results fn tmps).run Tryz.prog W = .ok (.bool x) W := by
  have hp' : tmps[p]?.getD undef = .pointer (some ⟨b, 0, none⟩) := by simpa using hp
  simp only [results, h]
  simp [go_sem, hp', hc]
theorem results_cell_int {fn : Func} {p : Tmp} {b : Nat} {x : Int} (h : fn.results = #[.cell p 3]) (tmps : Array Value) (W : World)
    (hp : tmps.getD p undef = .pointer (some ⟨b, 0, none⟩)) (hc : W.cell? ⟨b, 0, none⟩ = some (.int .i64 x)) : (results fn tmps).run Tryz.prog W = .ok (.int .i64 x) W := by
  have hp' : tmps[p]?.getD undef = .pointer (some ⟨b, 0, none⟩) := by simpa using hp
  simp only [results, h]
  simp [go_sem, hp', hc]
/-- The way out where the result is a bool in a variable of its own. -/
theorem leave_bool {fn : Func} {p : Tmp} {b : Nat} {x y : Bool} {w W : World} {tmps : Array Value} {ds : List Deferred} (hr : fn.results = #[.cell p 4])
    (hp : tmps.getD p undef = .pointer (some ⟨b, 0, none⟩)) (hc : W.cell? ⟨b, 0, none⟩ = some (.bool x)) (hm : Marks w.heap.size W ds) (hx : Ext w W) (hxy : x = y) :
    LeavesInM Fence.wide 0 Tryz.prog fn tmps (fun e w' => e = .returned (.bool y) ∧ Ext w w') ds .returning W :=
  leaves_marks (B := w.heap.size) (.bool x) _ _ hm fun _ hW' => ⟨results_cell hr _ _ hp (hW'.cell hc), ret_bool hxy, hx.book (Nat.le_refl _) hW'⟩
theorem cell_set {W : World} {b : Nat} {u v : Value} (h : W.cell? ⟨b, 0, none⟩ = some u) : (W.setCell ⟨b, 0, none⟩ v).cell? ⟨b, 0, none⟩ = some v :=
  World.cell?_setCell_same' _ _ _ (by rw [h]; rfl)

set_option maxRecDepth 100000 in
set_option maxHeartbeats 1000000 in
theorem graphInI_c (v : Value) (g : List Int) (w : World) (hv : Rd w v g) (hm : g.length ≤ 1048576) :
    Calls Tryz.prog 39 #[v] w fun e w' => e = .returned (.bool (graphIn g)) ∧ Ext w w' := by
  obtain ⟨a, c, rfl⟩ := hv.form
  have HV := Lib.hid hv; clear hv
  refine calls_marks Tryz.func39 rfl ?_
  simp only [Tryz.ntmps39, List.size_toArray, List.length_cons, List.length_nil, Nat.reduceAdd, Nat.reduceSub, Array.replicate_succ, Array.replicate_zero, List.push_toArray, List.append_toArray, List.nil_append, List.cons_append]
  cases h0 : inB 1 g.length 12
  · go_wp2_with (go_at_call 36; refine (in_c _ _ _ _).mono ?_; rintro e w' ⟨rfl, rfl⟩)
    obtain ⟨W, hW, hx, hsz, c0, c1, f0, f1⟩ := two_new w (.slice a g.length c) (.bool false) 29 4
    rw [← hW]
    exact leave_bool rfl rfl c1 (Marks.nil _ _) hx (graphIn_len h0).symm
  · obtain ⟨W, hW, hx, hsz, c0, c1, f0, f1⟩ := two_new w (.slice a g.length c) (.bool false) 29 4
    have h0' := inB_iff.1 h0
    have hn : g.length ≤ 12 := by omega
    have H0 := Lib.hid h0
    clear h0'
    go_wp2_with (go_at_call 36; refine (in_c _ _ _ _).mono ?_; rintro e w' ⟨rfl, rfl⟩)
    rw [← hW]
    have HW := Lib.hid hW; clear hW
    -- the variables of the call's own
    have hVW : Hid (Rd W (.slice a g.length c) g) := HV.out.ext hx
    have HX0 := Lib.hid hx; clear hx
    have hs0 : Hid (W.heap.size = w.heap.size + 2) := hsz; clear hsz
    obtain ⟨B0, hB0⟩ : ∃ b, b = w.heap.size := ⟨_, rfl⟩
    rw [← hB0] at c0 c1 f0 f1 ⊢
    have HB0 := Lib.hid hB0; clear hB0
    have HC0 := Lib.hid (And.intro c0 (And.intro c1 (And.intro f0 f1))); clear c0 c1 f0 f1
    go_loopw [3, 4, 14] (fun _ _ i wr => ∃ k : Nat, k ≤ g.length ∧ i = .int .i64 k ∧ (∀ j, j < k → rowOk g j = true) ∧ Ext W wr) (fun _ _ i _ => g.length - (intOf i).toNat)
    case atStart => exact ⟨0, Nat.zero_le _, rfl, by simp, Ext.refl _⟩
    case round =>
      obtain ⟨k, hk, rfl, hj, hx⟩ := hrel
      have HJ := Lib.hid hj; clear hj
      have HX := Lib.hid hx; clear hx
      obtain ⟨c0, c1, f0, f1⟩ := HC0.out
      have hlt0 : B0 + 1 < W.heap.size := by have := hs0.out; have := HB0.out; omega
      rw [← HX.out.cell (by omega)] at c0 c1
      rw [← HX.out.frozen (by omega)] at f0 f1
      by_cases hlt : k < g.length
      · obtain ⟨b, o, rfl, -, -, hc⟩ := hVW.out.atI hlt
        replace hc := hc _ HX.out
        cases hs : setB (getI g k) g.length
        · have HS := hs
          go_wp2_with (first | (go_at_call 60; refine (isSet_c _ _ (by omega) _).mono ?_; rintro e w' ⟨rfl, rfl⟩))
          exact leave_bool rfl rfl (cell_set c1) (Marks.nil _ _) ((HX0.out.trans HX.out).setCell (by have := HB0.out; simp; omega) _) (graphIn_row hlt (by unfold rowOk; rw [HS]; rfl)).symm
        · obtain ⟨hr1, hr2⟩ := row_of_set hs
          have hr3 : gN g k < 2 ^ 62 := Nat.lt_of_lt_of_le hr2 (Nat.pow_le_pow_right (by omega) (by omega))
          have HS := Lib.hid hs
          rw [hr1] at hs hc
          have HR1 := Lib.hid hr1
          clear hr1 hr2
          cases hb : (gN g k).testBit k
          · have HB := Lib.hid hb
            go_wp2_with (first | (go_at_call 60; refine (isSet_c _ _ (by omega) _).mono ?_; rintro e w' ⟨rfl, rfl⟩) | (go_at_call 61; refine (has_c _ _ hr3 (by omega) _).mono ?_; rintro e w' ⟨rfl, rfl⟩))
            go_roundw
            case rel => exact ⟨k + 1, by omega, by go_num, fun j hj => by
              by_cases h : j = k
              · subst h; unfold rowOk; rw [HS.out, HB.out]; rfl
              · exact HJ.out j (by omega), HX.out⟩
            case measure => simp [intOf]; omega
          · have HB := Lib.hid hb
            go_wp2_with (first | (go_at_call 60; refine (isSet_c _ _ (by omega) _).mono ?_; rintro e w' ⟨rfl, rfl⟩) | (go_at_call 61; refine (has_c _ _ hr3 (by omega) _).mono ?_; rintro e w' ⟨rfl, rfl⟩))
            exact leave_bool rfl rfl (cell_set c1) (Marks.nil _ _) ((HX0.out.trans HX.out).setCell (by have := HB0.out; simp; omega) _) (graphIn_row hlt (by unfold rowOk; rw [HS.out, HB.out]; rfl)).symm
      · obtain rfl : k = g.length := by omega
        have HR : Hid (∀ i, i < g.length → getI g i = (gN g i : Int) ∧ gN g i < 2 ^ g.length) := fun i hi => by
          have := HJ.out i hi
          unfold rowOk at this
          simp only [Bool.and_eq_true] at this
          exact row_of_set this.1
        go_wp2
        -- the second loop: each neighbour of each node
        refine wp_loop_marks [5, 6, 7, 32, 33, 34, 35, 36, 37, 38, 39, 40, 41, 42, 43, 44, 45, 46, 47]
          (fun u ds wr => ∃ k : Nat, k ≤ g.length ∧ u 32 = .int .i64 k ∧ (∀ j, j < k → ∀ m, m < g.length → (gN g j).testBit m = true → (gN g m).testBit j = true) ∧ Ext W wr ∧ Marks w.heap.size wr ds)
          (fun u _ => g.length - (intOf (u 32)).toNat) ⟨0, Nat.zero_le _, rfl, by simp, HX.out, Marks.nil _ _⟩ ?_
        rintro u ds w2 ⟨k, hk, hu, hj, hx, hm⟩ K HK
        simp only [fillFrom, List.contains_cons, List.contains_nil, Nat.reduceBEq, Nat.reduceAdd, Bool.or_false, Bool.or_true, if_true, if_false, Bool.false_eq_true, hu] at ⊢
        have HU := Lib.hid hu; clear hu c0 c1 f0 f1
        have HM := Lib.hid hm; clear hm
        have HJ2 := Lib.hid hj; clear hj
        have HX2 := Lib.hid hx; clear hx HX
        obtain ⟨c0, c1, f0, f1⟩ := HC0.out
        rw [← HX2.out.cell (by omega)] at c0 c1
        rw [← HX2.out.frozen (by omega)] at f0 f1
        by_cases hlt : k < g.length
        · obtain ⟨b, o, rfl, -, hbW, hc⟩ := hVW.out.atI hlt
          replace hc := hc _ HX2.out
          obtain ⟨r1, r2⟩ := HR.out k hlt
          rw [r1] at hc
          have R2 := Lib.hid r2
          clear r1 r2
          obtain ⟨W2, hW2, hx2, hsz2, d0, d1, e0, e1⟩ := two_new w2 (.int .i64 k) (.int .i64 (gN g k)) 3 3
          go_wp2_with (first | (go_at_call 62; refine (nodes_c _ _).mono ?_; rintro e w' ⟨rfl, rfl⟩))
          rw [← hW2]
          refine wp_range (nodes_iter (w2.heap.size + 1) (gN g k) g.length R2.out (by omega)) rfl nodes_enters rfl
            (fun j W' => (∀ m, m < j → (gN g k).testBit m = true → (gN g m).testBit k = true) ∧ Ext W2 W' ∧ Marks w.heap.size W' ds)
            (fun c W' => c = .ret ∧ (∃ m, (gN g k).testBit m = true ∧ (gN g m).testBit k = false) ∧ Ext w W' ∧ Marks w.heap.size W' ds ∧ W'.cell? ⟨B0 + 1, 0, none⟩ = some (.bool false))
            ?hI ?hIx ?hKi ?h0 ?hskip ?hround ?hdone ?hstop
          case hI =>
            rintro j W' W'' hB ⟨h1, h2, h3⟩
            exact ⟨h1, h2.book (Nat.le_refl _) hB, h3.book hB (fun k hk => by have := HM.out.lt k hk; omega)⟩
          case hIx =>
            rintro cc W' W'' hB ⟨h1, h2, h3, h4, h5⟩
            exact ⟨h1, h2, h3.book (by have := hx2.size; have := HX2.out.size; have := hs0.out; omega) hB, h4.book hB (fun k hk => by have := HM.out.lt k hk; omega), hB.cell h5⟩
          case hKi =>
            rintro j W' ⟨_, h2, _⟩
            exact (h2.cell (by omega)).trans d1
          case h0 => exact ⟨by simp, Ext.refl _, HM.out.ext hx2⟩
          case hskip =>
            rintro j W' hj hp ⟨h1, h2, h3⟩
            exact ⟨fun m hm hb => by
              by_cases h : m = j
              · subst h; rw [hp] at hb; cases hb
              · exact h1 m (by omega) hb, h2, h3⟩
          case hround =>
            rintro l j W' hj hp ⟨h1, h2, h3⟩ hsz
            have H1 := Lib.hid h1; have H2 := Lib.hid h2; have H3 := Lib.hid h3; clear h1 h2 h3
            gi_wp2
            refine ⟨KeepsFrom.refl _ _, fun W'' hB => ?_⟩
            have hE : Hid (Ext W2 W'') := H2.out.book (Nat.le_refl _) hB
            have hM3 : Hid (Marks w.heap.size W'' ds) := H3.out.book hB (fun k hk => by have := HM.out.lt k hk; omega)
            clear hB H2 H3
            have E2 : Hid (Ext W W'') := (HX2.out.trans hx2).trans hE.out
            obtain ⟨r1, r2⟩ := HR.out j hj
            have r3 : gN g j < 2 ^ 62 := Nat.lt_of_lt_of_le r2 (Nat.pow_le_pow_right (by omega) (by omega))
            have k1 : ∀ u, (clip W'' u).cell? ⟨B0, 0, none⟩ = some (.slice (some ⟨b, o, none⟩) g.length c) := fun u => ((E2.out.trans (clip_ext W'' u)).cell (by omega)).trans HC0.out.1
            have k2 : ∀ u, (clip W'' u).cell? ⟨w2.heap.size, 0, none⟩ = some (.int .i64 k) := fun u => ((hE.out.trans (clip_ext W'' u)).cell (by omega)).trans d0
            have k3 : ∀ u, (clip W'' u).cell? ⟨b, o + j, none⟩ = some (.int .i64 (gN g j)) := fun u => by
              obtain ⟨b', o', he, -, -, hc⟩ := hVW.out.atI hj
              obtain ⟨rfl, rfl⟩ : b = b' ∧ o = o' := by simpa using he
              rw [← r1]; exact hc _ (E2.out.trans (clip_ext W'' u))
            clear r1 r2
            have HL := Lib.hid (has_c (gN g j) k r3 (by omega))
            clear c0 c1 f0 f1 d0 d1 e0 e1 hc
            cases hb : (gN g j).testBit k
            · have HB := Lib.hid hb
              gi_wp2
              refine wpIn_quiet (ro := some l) (C := fun w' => ∃ u, w' = clip W'' u) (by kernel_rfl) (by kernel_rfl) (by kernel_rfl) ⟨_, (clip_of (Ext.refl W'').drew).symm⟩ ?_
              repeat (go_big_quiet_step ((go_at_call 61; exact Calls.clip_same (HL.out _))))
              refine wpQuiet_nil ?_
              rintro _ ⟨u', rfl⟩
              have q1 : (clip W'' u').cell? ⟨B0 + 1, 0, none⟩ = some (.bool false) := ((E2.out.trans (clip_ext W'' u')).cell (by omega)).trans HC0.out.2.1
              have q2 : (clip W'' u').frozen? ⟨B0 + 1, 0, none⟩ = false := ((E2.out.trans (clip_ext W'' u')).frozen (by omega)).trans HC0.out.2.2.2
              gi_wp2
              exact ⟨(KeepsFrom.of_ext (clip_ext W'' u')).trans (KeepsFrom.setCell' _ _ _ _), rfl, ⟨j, hp, HB.out⟩, ((HX0.out.trans E2.out).trans (clip_ext W'' u')).setCell (by have := HB0.out; simp; omega) _, (hM3.out.ext (clip_ext W'' u')).setCell _ _, cell_set q1⟩
            · have HB := Lib.hid hb
              gi_wp2
              refine wpIn_quiet (ro := some l) (C := fun w' => ∃ u, w' = clip W'' u) (by kernel_rfl) (by kernel_rfl) (by kernel_rfl) ⟨_, (clip_of (Ext.refl W'').drew).symm⟩ ?_
              repeat (go_big_quiet_step ((go_at_call 61; exact Calls.clip_same (HL.out _))))
              refine wpQuiet_nil ?_
              rintro _ ⟨u', rfl⟩
              gi_wp2
              exact ⟨KeepsFrom.of_ext (clip_ext W'' u'), fun m hm hb => by
                by_cases h : m = j
                · subst h; exact HB.out
                · exact H1.out m (by omega) hb, hE.out.trans (clip_ext W'' u'), hM3.out.ext (clip_ext W'' u')⟩
          case hdone =>
            rintro D W' hD ⟨h1, h2, h3⟩ hDD
            have H1 := Lib.hid h1; have H2 := Lib.hid h2; have H3 := Lib.hid h3; have HD := Lib.hid hDD; clear h1 h2 h3 hDD
            go_wp2
            refine HK.out _ _ _ rfl ⟨k + 1, by omega, by go_num, fun i hi m hm hb => ?_, (HX2.out.trans hx2).trans H2.out, H3.out.cons (n := W2.heap.size) (fun k hk => by have := HM.out.lt k hk; omega) hD (by have := hx2.size; have := HX2.out.size; have := hs0.out; omega) HD.out⟩ (by simp [intOf, HU.out]; omega)
            by_cases h : i = k
            · subst h; exact H1.out m hm hb
            · exact HJ2.out i (by omega) m hm hb
          case hstop =>
            rintro D cc W' hD ⟨rfl, ⟨m, hm1, hm2⟩, h3, h4, h5⟩ hDD
            go_wp2
            exact leave_bool rfl rfl h5 (h4.cons (n := W2.heap.size) (fun k hk => by have := HM.out.lt k hk; omega) hD (by have := hx2.size; have := HX2.out.size; have := hs0.out; omega) hDD) h3 (graphIn_sym (i := k) (k := m) (by rw [hm1, hm2]; decide)).symm
        · obtain rfl : k = g.length := by omega
          go_wp2
          exact leave_bool rfl rfl (cell_set c1) (HM.out.setCell _ _) ((HX0.out.trans HX2.out).setCell (by have := HB0.out; simp; omega) _) (graphIn_of H0.out HJ.out fun i hi k hk => by
            cases h1 : (gN g i).testBit k <;> cases h2 : (gN g k).testBit i
            · rfl
            · exact absurd (HJ2.out k hk i hi h2) (by rw [h1]; decide)
            · exact absurd (HJ2.out i hi k hk h1) (by rw [h2]; decide)
            · rfl).symm
end Go.Proofs.YtkmfmhckpfomeaaGreatDoor

/- Pools of tests: PoolIn, PoolAnswers, PoolLeft, SensorApart: the reference and the program compute the same plain functions. The condition: the list has at most 2^20 numbers. -/
namespace Go.Proofs.YtkmfmhckpfomeaaGreatDoor
open Go.RowKit
open BigFrame

theorem all_false {xs : List Int} {p : Int → Bool} {k : Nat} (hk : k < xs.length) (h : p (getI xs k) = false) : xs.all p = false := by
  rw [List.all_eq_false]
  refine ⟨xs[k], List.getElem_mem hk, ?_⟩
  have : getI xs k = xs[k] := by simp [getI, hk]
  rw [← this, h]; decide
theorem all_true {xs : List Int} {p : Int → Bool} (h : ∀ k, k < xs.length → p (getI xs k) = true) : xs.all p = true := by
  rw [List.all_eq_true]
  intro x hx
  obtain ⟨i, hi, rfl⟩ := List.getElem_of_mem hx
  have : getI xs i = xs[i] := by simp [getI, hi]
  rw [← this]; exact h i hi
theorem poolIn_len {items : Int} {tests : List Int} (h : inB 1 items 12 = false) : poolIn items tests = false := by simp [poolIn, h]
theorem poolIn_many {items : Int} {tests : List Int} (h : ¬ tests.length ≤ 16) : poolIn items tests = false := by simp [poolIn, h]

set_option maxHeartbeats 1000000 in
theorem poolInS_c (items : Int) (v : Value) (xs : List Int) (w : World) (hv : Rd w v xs) (hm : xs.length ≤ 1048576) :
    Calls Tryz.prog 164 #[.int .i64 items, v] w fun e w' => e = .returned (.bool (poolIn items xs)) ∧ Ext w w' := by
  obtain ⟨a, c, rfl⟩ := hv.form
  have HV := Lib.hid hv; clear hv
  cases h0 : inB 1 items 12
  · go_enter Tryz.func164, Tryz.ntmps164
    go_wp2_with (go_at_call 37; refine (l6In_c _ _ _ _).mono ?_; rintro e w' ⟨rfl, rfl⟩)
    go_ret
    exact ⟨ret_bool (poolIn_len h0).symm, Ext.refl _⟩
  · obtain ⟨n, rfl⟩ : ∃ n : Nat, items = n := ⟨items.toNat, by have := inB_iff.1 h0; omega⟩
    have hn : n ≤ 12 := by have := inB_iff.1 h0; omega
    by_cases h1 : xs.length ≤ 16
    · obtain ⟨p, hp, hp1, hp2, hp3⟩ := pow_var n (by omega)
      have HP := Lib.hid hp; clear hp
      have e0 : min n 64 = n := by omega
      have H0 := Lib.hid h0
      go_enter Tryz.func164, Tryz.ntmps164
      go_wp2_with (go_at_call 37; refine (l6In_c _ _ _ _).mono ?_; rintro e w' ⟨rfl, rfl⟩)
      go_loopw [5] (fun i wr => ∃ k : Nat, k ≤ xs.length ∧ i = .int .i64 k ∧ (∀ j, j < k → setB (getI xs j) n = true) ∧ Ext w wr) (fun i _ => xs.length - (intOf i).toNat)
      case atStart => exact ⟨0, Nat.zero_le _, rfl, by simp, Ext.refl _⟩
      case round =>
        obtain ⟨k, hk, rfl, hj, hx⟩ := hrel
        have HJ := Lib.hid hj; clear hj
        have HX := Lib.hid hx; clear hx
        by_cases hlt : k < xs.length
        · obtain ⟨b, o, rfl, -, -, hc⟩ := HV.out.atI hlt
          have c1 := fun u => hc _ (HX.out.trans (clip_ext wr u))
          clear hc
          cases hs : setB (getI xs k) n
          · have hs' : inB 0 (getI xs k) ((p : Int) - 1) = false := by rw [← HP.out]; exact hs
            have HS := Lib.hid hs; clear hs
            go_wp2
            refine wp_region_ext (by kernel_rfl) (by kernel_rfl) ?_
            repeat (go_big_quiet_step ((go_at_call 37; exact Calls.clip_same (l6In_c _ _ _ _))))
            refine wpQuiet_nil ?_
            rintro _ ⟨u, rfl⟩
            go_wp2
            go_ret
            refine ⟨ret_bool ?_, HX.out.trans (clip_ext _ _)⟩
            unfold poolIn
            rw [all_false hlt (by simpa using HS.out)]
            simp
          · have hs' : inB 0 (getI xs k) ((p : Int) - 1) = true := by rw [← HP.out]; exact hs
            have HS := Lib.hid hs; clear hs
            go_wp2
            refine wp_region_ext (by kernel_rfl) (by kernel_rfl) ?_
            repeat (go_big_quiet_step ((go_at_call 37; exact Calls.clip_same (l6In_c _ _ _ _))))
            refine wpQuiet_nil ?_
            rintro _ ⟨u, rfl⟩
            go_wp2
            go_roundw
            case rel => exact ⟨k + 1, by omega, by go_num, fun j hj => by
              by_cases h : j = k
              · subst h; exact HS.out
              · exact HJ.out j (by omega), HX.out.trans (clip_ext _ _)⟩
            case measure => simp [intOf]; omega
        · go_wp2
          go_ret
          obtain rfl : k = xs.length := by omega
          refine ⟨ret_bool ?_, HX.out⟩
          unfold poolIn
          rw [H0.out, all_true (by simpa using HJ.out)]
          simp [h1]
    · go_enter Tryz.func164, Tryz.ntmps164
      go_wp2_with (go_at_call 37; refine (l6In_c _ _ _ _).mono ?_; rintro e w' ⟨rfl, rfl⟩)
      go_ret
      exact ⟨ret_bool (poolIn_many h1).symm, Ext.refl _⟩

theorem poolIn1_enters : ∀ args w, (callFunc 181 args).run Tryz.prog w = .ok (.enter 181 args) w :=
  Go.Proofs.enters_of Tryz.func181 (by kernel_rfl) rfl
theorem poolIn1_c (s : Int) (n b : Nat) (hn : n ≤ 62) (w : World) (hc : w.cell? ⟨b, 0, none⟩ = some (.int .i64 n)) :
    Calls Tryz.prog 181 #[.int .i64 s, .pointer (some ⟨b, 0, none⟩)] w fun e w' => e = .returned (.bool (!setB s n)) ∧ Ext w w' := by
  go_enter Tryz.func181, Tryz.ntmps181
  go_wp2_with (go_at_call 60; refine (isSet_c _ _ hn _).mono ?_; rintro e w' ⟨rfl, rfl⟩)
  go_ret
  exact ⟨rfl, Ext.refl _⟩
theorem not_any_not (xs : List Int) (n : Nat) : (!xs.any fun s => !setB s n) = xs.all fun s => setB s n := by
  induction xs with
  | nil => rfl
  | cons x r ih => simp [← ih]

set_option maxHeartbeats 1000000 in
theorem poolInI_c (items : Int) (v : Value) (xs : List Int) (w : World) (hv : Rd w v xs) (hm : xs.length ≤ 1048576) :
    Calls Tryz.prog 144 #[.int .i64 items, v] w fun e w' => e = .returned (.bool (poolIn items xs)) ∧ Ext w w' := by
  obtain ⟨a, c, rfl⟩ := hv.form
  have HV := Lib.hid hv; clear hv
  cases h0 : inB 1 items 12
  · go_enter Tryz.func144, Tryz.ntmps144
    go_wp2_with (go_at_call 36; refine (in_c _ _ _ _).mono ?_; rintro e w' ⟨rfl, rfl⟩)
    go_ret
    exact ⟨ret_bool (poolIn_len h0).symm, (Ext.refl w).alloc _⟩
  · obtain ⟨n, rfl⟩ : ∃ n : Nat, items = n := ⟨items.toNat, by have := inB_iff.1 h0; omega⟩
    have hn : n ≤ 12 := by have := inB_iff.1 h0; omega
    by_cases h1 : xs.length ≤ 16
    · obtain ⟨W, hW, hx, hsz, c0, f0⟩ := one_new w (.int .i64 n) 3
      have HF := Lib.hid (containsFunc_c (.slice a xs.length c) xs 181 #[.pointer (some ⟨w.heap.size, 0, none⟩)] (fun s => !setB s n) W (HV.out.ext hx) hm poolIn1_enters
        (fun x _ w' hx' => poolIn1_c x n w.heap.size (by omega) w' ((hx'.cell (by omega)).trans c0)))
      have HW := Lib.hid hW; have HX := Lib.hid hx; clear hW hx hsz c0 f0
      have hmf : ∀ (fn : Fn) (first cap : Array Value) (w : World), (Instr.makeFunc fn first cap).run Tryz.prog w = .ok (.func fn first cap) w := fun _ _ _ _ => rfl
      go_enter Tryz.func144, Tryz.ntmps144
      go_wp2_with (first | (go_at_call 36; refine (in_c _ _ _ _).mono ?_; rintro e w' ⟨rfl, rfl⟩) | (go_at_call 180; rw [← HW.out]; refine HF.out.mono ?_; rintro e w' ⟨rfl, hx'⟩))
      go_ret
      refine ⟨ret_bool ?_, HX.out.trans (by assumption)⟩
      unfold poolIn
      rw [h0, ← not_any_not]
      simp [h1]
    · go_enter Tryz.func144, Tryz.ntmps144
      go_wp2_with (go_at_call 36; refine (in_c _ _ _ _).mono ?_; rintro e w' ⟨rfl, rfl⟩)
      go_ret
      exact ⟨ret_bool (poolIn_many h1).symm, (Ext.refl w).alloc _⟩
end Go.Proofs.YtkmfmhckpfomeaaGreatDoor

/- Answers of pools, what is left, how far apart two sets are: the reference and the program compute the same plain functions. The condition: the list has at most 2^20 numbers. -/
namespace Go.Proofs.YtkmfmhckpfomeaaGreatDoor
open Go.RowKit
open BigFrame

/-- What a function that returns a number and whether it holds returns. -/
def pairV (p : Int × Bool) : Value := .tuple #[.int .i64 p.1, .bool p.2]
theorem ret_pair {p q : Int × Bool} (h : p = q) : Ending.returned (pairV p) = .returned (pairV q) := by rw [h]
theorem ret_pair' {a : Int} {b : Bool} {q : Int × Bool} (h : (a, b) = q) : Ending.returned (.tuple #[.int .i64 a, .bool b]) = .returned (pairV q) := by rw [← h]; rfl

def poolAnswers (items : Int) (tests : List Int) (wrong : Int) : Int × Bool :=
  if poolIn items tests && setB wrong items.toNat then ((answersOf tests wrong.toNat : Nat), true) else (0, false)
def poolLeft (items : Int) (tests : List Int) (answers : Int) : Int × Bool :=
  if poolIn items tests && setB answers tests.length then ((leftOf items.toNat tests answers.toNat : Nat), true) else (0, false)
def apart (a b : Int) : Int := if setB a 12 && setB b 12 then (cnt (bxor a.toNat b.toNat) : Nat) else -1

theorem answersTo_small {tests : List Int} {wrong k : Nat} (h : k ≤ 16) : answersTo tests wrong k ≤ 65535 := by
  have := answersTo_lt tests wrong k
  have := pow_le_16 h
  omega
theorem leftTo_small {n : Nat} {tests : List Int} {answers k : Nat} (h : n ≤ 12) : leftTo n tests answers k ≤ 4095 := by
  have := leftTo_lt n tests answers k
  have := pow_le_12 h
  omega
theorem IsPool.small {n : Nat} {tests : List Int} (h : IsPool n tests) (i : Nat) : gN tests i ≤ 4095 := by
  have := h.lt i
  have := pow_le_12 h.le
  omega

set_option maxHeartbeats 400000 in
theorem l4Answers_c (n : Nat) (v : Value) (xs : List Int) (m : Nat) (w : World) (hv : Rd w v xs) (hp : IsPool n xs) (hm : m ≤ 4095) :
    Calls Tryz.prog 165 #[v, .int .i64 m] w fun e w' => e = .returned (.int .i64 (answersOf xs m : Nat)) ∧ w = w' := by
  obtain ⟨a, c, rfl⟩ := hv.form
  have HV := Lib.hid hv; clear hv
  have HP := Lib.hid hp
  have hl := hp.len
  clear hp
  go_enter Tryz.func165, Tryz.ntmps165
  go_wp2
  go_loop [5, 6] (fun o i => ∃ k : Nat, k ≤ xs.length ∧ i = .int .i64 k ∧ o = .int .i64 (answersTo xs m k : Nat)) (fun _ i => xs.length - (intOf i).toNat)
  case atStart => exact ⟨0, Nat.zero_le _, rfl, rfl⟩
  case round =>
    obtain ⟨k, hk, rfl, rfl⟩ := hrel
    have h1 : answersTo xs m k ≤ 65535 := answersTo_small (by omega)
    have H2 : Hid (answersTo xs m (k + 1) = if band (gN xs k) m ≠ 0 then bor (answersTo xs m k) (2 ^ k) else answersTo xs m k) := rfl
    generalize hq : answersTo xs m k = q at *
    have H3 := Lib.hid hq; clear hq
    by_cases hlt : k < xs.length
    · obtain ⟨b, o, rfl, -, -, hc⟩ := HV.out.atI hlt
      have c1 := hc _ (Ext.refl w)
      clear hc
      have r1 := HP.out.row k hlt
      have r2 := HP.out.small k
      rw [r1] at c1
      clear r1
      have e1 := bits_and (gN xs k) m (by omega) (by omega)
      obtain ⟨p, hp, hp1, hp2, hp3⟩ := pow_var k (by omega)
      have e0 : min k 64 = k := by omega
      have e2 := bits_or q p (by omega) (by omega)
      have H4 := Lib.hid hp; clear hp
      by_cases hz : band (gN xs k) m = 0
      · have HZ := Lib.hid hz
        go_wp2
        go_round
        case rel => exact ⟨k + 1, by omega, by go_num, by rw [H2.out, if_neg (by simpa using HZ.out)]⟩
        case measure => simp [intOf]; omega
      · have HZ := Lib.hid hz
        have hz' : ((band (gN xs k) m : Nat) : Int) ≠ 0 := by omega
        go_wp2
        go_round
        case rel => exact ⟨k + 1, by omega, by go_num, by rw [H2.out, if_pos (by simpa using HZ.out), H4.out]⟩
        case measure => simp [intOf]; omega
    · go_wp2
      go_ret
      obtain rfl : k = xs.length := by omega
      exact ⟨by rw [← H3.out]; rfl, rfl⟩

set_option maxHeartbeats 400000 in
theorem answers_c (n : Nat) (it : Int) (v : Value) (xs : List Int) (m : Nat) (w : World) (hv : Rd w v xs) (hp : IsPool n xs) (hm : m ≤ 4095) :
    Calls Tryz.prog 147 #[.agg #[.int .i64 it, v], .int .i64 m] w fun e w' => e = .returned (.int .i64 (answersOf xs m : Nat)) ∧ Ext w w' := by
  obtain ⟨a, c, rfl⟩ := hv.form
  have HV := Lib.hid hv; clear hv
  have HP := Lib.hid hp
  have hl := hp.len
  clear hp
  go_enter Tryz.func147, Tryz.ntmps147
  go_wp2
  go_loop [5, 11] (fun o i => ∃ k : Nat, k ≤ xs.length ∧ i = .int .i64 k ∧ o = .int .i64 (answersTo xs m k : Nat)) (fun _ i => xs.length - (intOf i).toNat)
  case atStart => exact ⟨0, Nat.zero_le _, rfl, rfl⟩
  case round =>
    obtain ⟨k, hk, rfl, rfl⟩ := hrel
    have h1 : answersTo xs m k ≤ 65535 := answersTo_small (by omega)
    have H2 : Hid (answersTo xs m (k + 1) = if band (gN xs k) m ≠ 0 then bor (answersTo xs m k) (2 ^ k) else answersTo xs m k) := rfl
    generalize hq : answersTo xs m k = q at *
    have H3 := Lib.hid hq; clear hq
    by_cases hlt : k < xs.length
    · obtain ⟨b, o, rfl, -, -, hc⟩ := HV.out.atI hlt
      have c1 := hc _ ((Ext.refl w).alloc (Obj.cells #[Value.int IntKind.i64 it, Value.slice (some ⟨b, o, none⟩) xs.length c] 136))
      clear hc
      have r1 := HP.out.row k hlt
      have r2 := HP.out.small k
      rw [r1] at c1
      clear r1
      have e1 := bits_and (gN xs k) m (by omega) (by omega)
      obtain ⟨p, hp, hp1, hp2, hp3⟩ := pow_var k (by omega)
      have e0 : min k 64 = k := by omega
      have e2 := bits_or q p (by omega) (by omega)
      have H4 := Lib.hid hp; clear hp
      by_cases hz : band (gN xs k) m = 0
      · have HZ := Lib.hid hz
        go_wp2
        go_round
        case rel => exact ⟨k + 1, by omega, by go_num, by rw [H2.out, if_neg (by simpa using HZ.out)]⟩
        case measure => simp [intOf]; omega
      · have HZ := Lib.hid hz
        have hz' : ((band (gN xs k) m : Nat) : Int) ≠ 0 := by omega
        go_wp2
        go_round
        case rel => exact ⟨k + 1, by omega, by go_num, by rw [H2.out, if_pos (by simpa using HZ.out), H4.out]⟩
        case measure => simp [intOf]; omega
    · go_wp2
      go_ret
      obtain rfl : k = xs.length := by omega
      exact ⟨by rw [← H3.out]; rfl, (Ext.refl w).alloc _⟩

end Go.Proofs.YtkmfmhckpfomeaaGreatDoor

/- Variables of the call's own; ways out with results that lie in such variables. No condition. -/
namespace Go.Proofs.YtkmfmhckpfomeaaGreatDoor
open Go.RowKit
open BigFrame

/-- Block b is a variable that holds v. -/
structure Var (w : World) (b : Nat) (v : Value) : Prop where
  cell : w.cell? ⟨b, 0, none⟩ = some v
  frozen : w.frozen? ⟨b, 0, none⟩ = false
  lt : b < w.heap.size
theorem Var.ext {w w' : World} {b : Nat} {v : Value} (h : Var w b v) (hx : Ext w w') : Var w' b v :=
  ⟨(hx.cell h.lt).trans h.cell, (hx.frozen h.lt).trans h.frozen, Nat.lt_of_lt_of_le h.lt hx.size⟩
theorem Var.set {w : World} {b : Nat} {v : Value} (h : Var w b v) (u : Value) : Var (w.setCell ⟨b, 0, none⟩ u) b u :=
  ⟨cell_set h.cell, by simpa using h.frozen, by simpa using h.lt⟩
theorem Var.other {w : World} {b c : Nat} {v : Value} (h : Var w b v) (hne : b ≠ c) (u : Value) : Var (w.setCell ⟨c, 0, none⟩ u) b v :=
  ⟨(World.cell?_setCell_other _ _ _ _ (fun h => hne (congrArg Addr.block h).symm)).trans h.cell, by simpa using h.frozen, by simpa using h.lt⟩
theorem Var.new (w : World) (v : Value) (t : TypeId) : Var (w.alloc (.cells #[v] t)) w.heap.size v := by
  have h := cell_of_heap (World.alloc_heap_new w (.cells #[v] t))
  exact ⟨h.1, h.2, by simp⟩
theorem two_cells {W : World} {b : Nat} {v u : Value} {t : TypeId} (h : W.heap[b]? = some (.cells #[v, u] t (0, 0))) : W.cell? ⟨b, 0, none⟩ = some v ∧ W.cell? ⟨b, 1, none⟩ = some u := by
  constructor <;> simp [World.cell?, h]
/-- Two results that lie in variables of their own. -/
theorem results_pair {fn : Func} {p q : Tmp} {b c : Nat} {x : Int} {y : Bool} (h : fn.results = #[.cell p 3, .cell q 4]) (tmps : Array Value) (W : World)
    (hp : tmps.getD p undef = .pointer (some ⟨b, 0, none⟩)) (hq : tmps.getD q undef = .pointer (some ⟨c, 0, none⟩)) (hb : W.cell? ⟨b, 0, none⟩ = some (.int .i64 x)) (hc : W.cell? ⟨c, 0, none⟩ = some (.bool y)) :
    (results fn tmps).run Tryz.prog W = .ok (.tuple #[.int .i64 x, .bool y]) W := by
  have hp' : tmps[p]?.getD undef = .pointer (some ⟨b, 0, none⟩) := by simpa using hp
  have hq' : tmps[q]?.getD undef = .pointer (some ⟨c, 0, none⟩) := by simpa using hq
  simp only [results, h]
  simp [go_sem, hp', hq', hb, hc]
theorem leave_pair {fn : Func} {p q : Tmp} {b c : Nat} {x : Int} {y : Bool} {r : Int × Bool} {w W : World} {tmps : Array Value} {ds : List Deferred} (hr : fn.results = #[.cell p 3, .cell q 4])
    (hp : tmps.getD p undef = .pointer (some ⟨b, 0, none⟩)) (hq : tmps.getD q undef = .pointer (some ⟨c, 0, none⟩)) (hb : W.cell? ⟨b, 0, none⟩ = some (.int .i64 x)) (hc : W.cell? ⟨c, 0, none⟩ = some (.bool y))
    (hm : Marks w.heap.size W ds) (hx : Ext w W) (hxy : (x, y) = r) :
    LeavesInM Fence.wide 0 Tryz.prog fn tmps (fun e w' => e = .returned (pairV r) ∧ Ext w w') ds .returning W :=
  leaves_marks (B := w.heap.size) (.tuple #[.int .i64 x, .bool y]) _ _ hm fun _ hW' => ⟨results_pair hr _ _ hp hq (hW'.cell hb) (hW'.cell hc), ret_pair' hxy, hx.book (Nat.le_refl _) hW'⟩
/-- Three variables that have just been laid. -/
theorem three_new (w : World) (x y z : Value) (t u s : TypeId) :
    ∃ W, W = ((w.alloc (.cells #[x] t)).alloc (.cells #[y] u)).alloc (.cells #[z] s) ∧ Ext w W ∧ W.heap.size = w.heap.size + 3 ∧ Var W w.heap.size x ∧ Var W (w.heap.size + 1) y ∧ Var W (w.heap.size + 1 + 1) z := by
  refine ⟨_, rfl, (((Ext.refl w).alloc _).alloc _).alloc _, by simp, ((Var.new w x t).ext (((Ext.refl _).alloc _).alloc _)), ?_, ?_⟩
  · have := (Var.new (w.alloc (.cells #[x] t)) y u).ext ((Ext.refl _).alloc (.cells #[z] s))
    simpa using this
  · have := Var.new ((w.alloc (.cells #[x] t)).alloc (.cells #[y] u)) z s
    simpa using this
end Go.Proofs.YtkmfmhckpfomeaaGreatDoor

/- Numbers read from text: the reference's l7Number. The condition: the text has at most 2^20 bytes. -/
namespace Go.Proofs.YtkmfmhckpfomeaaGreatDoor
open Go.RowKit
open BigFrame
attribute [local go_sem] Oper.semAt_some

def digB (x : UInt8) : Bool := decide (48 ≤ x.toNat) && decide (x.toNat ≤ 57)
def numTo (l : List UInt8) : Nat := l.foldl (fun n x => 10 * n + (x.toNat - 48)) 0
def number? (l : List UInt8) : Option Nat := if decide (1 ≤ l.length) && decide (l.length ≤ 4) && l.all digB then some (numTo l) else none
def numB (l : List UInt8) : Int × Bool := match number? l with | some n => (n, true) | none => (0, false)
theorem take_next {l : List UInt8} {j : Nat} (h : j < l.length) : l.take (j + 1) = l.take j ++ [l.getD j 0] := by
  rw [List.take_add_one, List.getElem?_eq_getElem h]
  simp [List.getD, List.getElem?_eq_getElem h]
theorem numTo_next {l : List UInt8} {j : Nat} (h : j < l.length) : numTo (l.take (j + 1)) = 10 * numTo (l.take j) + ((l.getD j 0).toNat - 48) := by
  rw [take_next h]
  unfold numTo
  rw [List.foldl_append]
  rfl
theorem dig_next {l : List UInt8} {j : Nat} (h : j < l.length) : (l.take (j + 1)).all digB = ((l.take j).all digB && digB (l.getD j 0)) := by
  rw [take_next h, List.all_append]
  simp
theorem dig_le {x : UInt8} (h : digB x = true) : x.toNat - 48 ≤ 9 := by
  unfold digB at h
  rw [Bool.and_eq_true, decide_eq_true_iff, decide_eq_true_iff] at h
  omega
theorem numTo_lt {l : List UInt8} : ∀ {j : Nat}, j ≤ l.length → (l.take j).all digB = true → numTo (l.take j) < 10 ^ j
  | 0, _, _ => by simp [numTo]
  | j + 1, h, hd => by
    have hj : j < l.length := h
    rw [dig_next hj, Bool.and_eq_true] at hd
    have ih := numTo_lt (by omega : j ≤ l.length) hd.1
    have h9 := dig_le hd.2
    rw [numTo_next hj, Nat.pow_succ]
    omega
theorem dig_stop {l : List UInt8} {j : Nat} (h : j < l.length) (hd : digB (l.getD j 0) = false) : l.all digB = false := by
  rw [Bool.eq_false_iff]
  intro ha
  rw [List.all_eq_true] at ha
  have : digB (l.getD j 0) = true := ha _ (by rw [List.getD, List.getElem?_eq_getElem h]; exact List.getElem_mem h)
  rw [hd] at this; cases this
/-- A string, hidden: its size and its bytes. -/
structure IsStr (S : ByteArray) (l : List UInt8) (L : Nat) : Prop where
  eq : S = ⟨l.toArray⟩
  size : S.size = L
  len : l.length = L
theorem IsStr.of (l : List UInt8) : ∃ S L, IsStr S l L := ⟨⟨l.toArray⟩, l.length, rfl, by show l.toArray.size = _; simp, rfl⟩
theorem IsStr.val {S : ByteArray} {l : List UInt8} {L : Nat} (h : IsStr S l L) : strV l = .string S := by rw [h.eq]; rfl
theorem IsStr.byte {S : ByteArray} {l : List UInt8} {L : Nat} (h : IsStr S l L) {j : Nat} (hj : j < L) :
    ∃ x : UInt8, ∃ b : Nat, l.getD j 0 = x ∧ x.toNat = b ∧ b ≤ 255 ∧ ∀ w : World, (Instr.index 9 (.string S) (.int .i64 (j : Int))).run Tryz.prog w = .ok (.int .u8 (b : Int)) w := by
  refine ⟨_, _, rfl, rfl, by have := (l.getD j 0).toNat_lt; omega, fun w => ?_⟩
  have hS : S.size = L := h.size
  have hl := h.len
  rw [run_index_string w 9 S .i64 (j : Int) Tryz.underlying9, dif_pos ⟨by omega, by omega⟩]
  have e : S[(j : Int).toNat]'(by simp; omega) = l.getD j 0 := by
    obtain ⟨rfl, _, _⟩ := h
    rw [List.getD, List.getElem?_eq_getElem (by omega : j < l.length)]
    rfl
  rw [e]

set_option maxHeartbeats 1000000 in
theorem l7Number_c (l : List UInt8) (w : World) (hl : l.length ≤ 1048576) :
    Calls Tryz.prog 116 #[strV l] w fun e w' => e = .returned (pairV (numB l)) ∧ Ext w w' := by
  obtain ⟨S, L, hS⟩ := IsStr.of l
  rw [hS.val]
  have hsz := hS.size
  have HL := Lib.hid hS.len
  have hL : L ≤ 1048576 := by rw [← hS.len]; exact hl
  have HS := Lib.hid hS
  clear hl hS
  by_cases h4 : 1 ≤ L ∧ L ≤ 4
  · obtain ⟨h1, h4⟩ := h4
    have hin : inB 1 (L : Int) 4 = true := inB_iff.2 (by omega)
    have HF : Hid ((decide (1 ≤ l.length) && decide (l.length ≤ 4)) = true) := by unfold Hid; rw [HL.out, decide_eq_true h1, decide_eq_true h4]; rfl
    go_enter Tryz.func116, Tryz.ntmps116
    go_wp2_with (go_at_call 37; refine (l6In_c _ _ _ _).mono ?_; rintro e w' ⟨rfl, rfl⟩)
    go_loopw [4, 5] (fun n i wr => ∃ j d : Nat, j ≤ L ∧ i = .int .i64 j ∧ n = .int .i64 d ∧ d ≤ 9999 ∧ Hid (d = numTo (l.take j)) ∧ Hid ((l.take j).all digB = true) ∧ wr = w) (fun _ i _ => L - (intOf i).toNat)
    case atStart => exact ⟨0, 0, Nat.zero_le _, rfl, rfl, by omega, rfl, rfl, rfl⟩
    case round =>
      obtain ⟨j, d, hj, rfl, rfl, hd, HN, HD, rfl⟩ := hrel
      by_cases hlt : j < L
      · obtain ⟨x, b, hx, hb, hb5, hidx⟩ := HS.out.byte hlt
        have hlt' : j < l.length := by rw [HL.out]; exact hlt
        have e1 := Lib.hid (numTo_next hlt'); have e2 := Lib.hid (dig_next hlt')
        rw [hx, hb, ← HN.out] at e1
        rw [hx, HD.out, Bool.true_and] at e2
        have HB : Hid (digB x = (decide (48 ≤ b) && decide (b ≤ 57))) := by unfold Hid digB; rw [hb]
        have HX := Lib.hid hx
        clear hx hb hlt'
        by_cases h48 : b < 48
        · have HZ : Hid (numB l = (0, false)) := by
            have h2 : digB x = false := by rw [HB.out, decide_eq_false (by omega)]; rfl
            have h3 : l.all digB = false := dig_stop (j := j) (by rw [HL.out]; exact hlt) (by rw [HX.out]; exact h2)
            unfold Hid numB number?
            rw [h3, Bool.and_false]; rfl
          go_wp2
          go_ret2
          exact ⟨ret_pair' HZ.out.symm, Ext.refl _⟩
        · by_cases h57 : 57 < b
          · have HZ : Hid (numB l = (0, false)) := by
              have h2 : digB x = false := by rw [HB.out, decide_eq_false (by omega : ¬ b ≤ 57), Bool.and_false]
              have h3 : l.all digB = false := dig_stop (j := j) (by rw [HL.out]; exact hlt) (by rw [HX.out]; exact h2)
              unfold Hid numB number?
              rw [h3, Bool.and_false]; rfl
            go_wp2
            go_ret2
            exact ⟨ret_pair' HZ.out.symm, Ext.refl _⟩
          · have h2 : digB x = true := by rw [HB.out, decide_eq_true (by omega), decide_eq_true (by omega)]; rfl
            have HD' : Hid ((l.take (j + 1)).all digB = true) := e2.out.trans h2
            obtain ⟨d', hd'⟩ : ∃ d', d' = 10 * d + (b - 48) := ⟨_, rfl⟩
            have HN' : Hid (d' = numTo (l.take (j + 1))) := by unfold Hid; rw [hd', e1.out]
            have hlim : d' ≤ 9999 := by
              have h3 := numTo_lt (l := l) (j := j + 1) (by rw [HL.out]; exact hlt) HD'.out
              have h5 : 10 ^ (j + 1) ≤ 10 ^ 4 := Nat.pow_le_pow_right (by omega) (by omega)
              rw [← HN'.out] at h3
              have h6 : 10 ^ 4 = 10000 := by decide
              omega
            clear h2
            go_wp2
            go_roundw
            case rel => exact ⟨j + 1, d', by omega, by go_num, by go_num, hlim, HN', HD', by trivial⟩
            case measure => simp [intOf]; omega
      · obtain rfl : j = L := by omega
        have HZ : Hid (numB l = ((d : Int), true)) := by
          have h5 : l.take j = l := by rw [← HL.out]; exact List.take_length
          have h6 := HD.out
          have h7 := HN.out
          rw [h5] at h6 h7
          unfold Hid numB number?
          rw [HF.out, h6, h7]; rfl
        go_wp2
        go_ret2
        exact ⟨ret_pair' HZ.out.symm, Ext.refl _⟩
  · have hin : inB 1 (L : Int) 4 = false := by
      rw [Bool.eq_false_iff]; intro h; have := inB_iff.1 h; omega
    have HZ : Hid (numB l = (0, false)) := by
      have h2 : (decide (1 ≤ l.length) && decide (l.length ≤ 4)) = false := by
        rw [HL.out]
        by_cases h : 1 ≤ L
        · rw [decide_eq_false (by omega : ¬ L ≤ 4), Bool.and_false]
        · rw [decide_eq_false h]; rfl
      unfold Hid numB number?
      rw [h2]; rfl
    go_enter Tryz.func116, Tryz.ntmps116
    go_wp2_with (go_at_call 37; refine (l6In_c _ _ _ _).mono ?_; rintro e w' ⟨rfl, rfl⟩)
    go_ret2
    exact ⟨ret_pair' HZ.out.symm, Ext.refl _⟩
end Go.Proofs.YtkmfmhckpfomeaaGreatDoor
