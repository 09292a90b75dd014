/- The least set of wrong items with some answers: the reference and the program compute the same plain function. The condition: the list has at most 2^20 numbers. -/
import Derived.Test.YtnpkkfaidejljaaAns
import Derived.Test.YtnpkkfaidejljaaVar
namespace Go.Proofs.Ytnpkkfaidejljaa
open Go.RowKit
open BigFrame
attribute [local go_sem] Oper.semAt_some

/-- The least number below N with p, and whether there is one. -/
def leastP (p : Nat → Bool) (N : Nat) : Int × Bool :=
  match (List.range N).find? p with
  | some k => ((k : Nat), true)
  | none => (0, false)
theorem leastP_none {p : Nat → Bool} {N : Nat} (h : ∀ j, j < N → p j = false) : leastP p N = (0, false) := by
  unfold leastP
  rw [List.find?_eq_none.2 (fun x hx => by rw [h x (List.mem_range.1 hx)]; decide)]
theorem leastP_some {p : Nat → Bool} {N k : Nat} (hk : k < N) (h : ∀ j, j < k → p j = false) (hp : p k = true) : leastP p N = (((k : Nat) : Int), true) := by
  unfold leastP
  rw [show (List.range N).find? p = some k from by
    rw [List.find?_range_eq_some]
    exact ⟨hp, List.mem_range.2 hk, fun j hj => by rw [h j hj]; rfl⟩]
def goodB (tests : List Int) (d a k : Nat) : Bool := fewB d k && (answersOf tests k == a)
def poolDecode (items : Int) (tests : List Int) (d answers : Int) : Int × Bool :=
  if poolIn items tests && inB 0 d 3 && setB answers tests.length then leastP (goodB tests d.toNat answers.toNat) (2 ^ items.toNat) else (0, false)
theorem answersOf_small {n : Nat} {tests : List Int} (h : IsPool n tests) (m : Nat) : answersOf tests m ≤ 65535 := answersTo_small h.len
theorem few_iff {d k : Nat} : fewB d k = true ↔ cnt k ≤ d := by simp [fewB]

set_option maxHeartbeats 1000000 in
theorem poolDecodeS_c (items : Int) (v : Value) (xs : List Int) (d ans : Int) (w : World) (hv : Rd w v xs) (hm : xs.length ≤ 1048576) :
    Calls Try.prog 73 #[.int .i64 items, v, .int .i64 d, .int .i64 ans] w fun e w' => e = .returned (pairV (poolDecode items xs d ans)) ∧ Ext w w' := by
  obtain ⟨a, c, rfl⟩ := hv.form
  have HV := Lib.hid hv; clear hv
  have HM := Lib.hid hm
  cases h0 : poolIn items xs
  · rw [show poolDecode items xs d ans = (0, false) from by unfold poolDecode; rw [h0]; rfl]
    go_enter Try.func73, Try.ntmps73
    go_wp2_with (go_at_call 52; refine (poolInS_c _ _ _ _ HV.out HM.out).mono ?_; rintro e w1 ⟨rfl, x1⟩)
    go_ret2
    exact ⟨rfl, by assumption⟩
  · cases hd : inB 0 d 3
    · rw [show poolDecode items xs d ans = (0, false) from by unfold poolDecode; rw [h0, hd]; rfl]
      go_enter Try.func73, Try.ntmps73
      go_wp2_with (first | (go_at_call 52; refine (poolInS_c _ _ _ _ HV.out HM.out).mono ?_; rintro e w1 ⟨rfl, x1⟩) | (go_at_call 93; refine (l6In_c _ _ _ _).mono ?_; rintro e w' ⟨rfl, rfl⟩))
      go_ret2
      exact ⟨rfl, by assumption⟩
    · obtain ⟨n, rfl, hP⟩ := poolIn_iff.1 h0
      have hn := hP.le
      have hl := hP.len
      have HP := Lib.hid hP; clear hP
      obtain ⟨D, rfl⟩ : ∃ D : Nat, d = D := ⟨d.toNat, by have := inB_iff.1 hd; omega⟩
      obtain ⟨p, hp, hp1, hp2, hp3⟩ := pow_var n (by omega)
      have hp4 : p ≤ 4096 := by rw [← hp]; exact pow_le_12 hn
      have HP2 := Lib.hid hp; clear hp
      have e0 : min n 64 = n := by omega
      obtain ⟨p', hp', hp1', hp2', hp3'⟩ := pow_var xs.length (by omega)
      have HP2' := Lib.hid hp'; clear hp'
      have e0' : min xs.length 64 = xs.length := by omega
      cases hs : inB 0 ans ((p' : Int) - 1)
      · have HS : Hid (setB ans xs.length = false) := by unfold setB; rw [HP2'.out]; exact hs
        rw [show poolDecode n xs D ans = (0, false) from by unfold poolDecode; rw [h0, hd, HS.out]; rfl]
        go_enter Try.func73, Try.ntmps73
        go_wp2_with (first | (go_at_call 52; refine (poolInS_c _ _ _ _ HV.out HM.out).mono ?_; rintro e w1 ⟨rfl, x1⟩) | (go_at_call 93; refine (l6In_c _ _ _ _).mono ?_; rintro e w' ⟨rfl, rfl⟩))
        go_ret2
        exact ⟨rfl, by assumption⟩
      · have HS : Hid (setB ans xs.length = true) := by unfold setB; rw [HP2'.out]; exact hs
        obtain ⟨m, rfl, hml⟩ := setB_iff.1 HS.out
        have hm4 : m ≤ 65535 := by have := pow_le_16 hl; omega
        clear hml
        rw [show poolDecode n xs D m = leastP (goodB xs D m) p from by unfold poolDecode; rw [h0, hd, HS.out]; show leastP (goodB xs D m) (2 ^ n) = _; rw [HP2.out]]
        go_enter Try.func73, Try.ntmps73
        go_wp2_with fail
        refine (poolInS_c _ _ _ _ HV.out HM.out).mono ?_
        rintro e w1 ⟨rfl, x1⟩
        have X1 := Lib.hid x1; clear x1
        go_wp2_with (go_at_call 93; refine (l6In_c _ _ _ _).mono ?_; rintro e w' ⟨rfl, rfl⟩)
        go_loop [10] (fun i => ∃ k : Nat, k ≤ p ∧ i = .int .i64 k ∧ Hid (∀ j, j < k → goodB xs D m j = false)) (fun i => p - (intOf i).toNat)
        case atStart => exact ⟨0, Nat.zero_le _, rfl, fun j hj => absurd hj (Nat.not_lt_zero j)⟩
        case round =>
          obtain ⟨k, hk, rfl, HJ⟩ := hrel
          by_cases hlt : k < p
          · have HN : ∀ b, goodB xs D m k = b → b = false → Hid (∀ j, j < k + 1 → goodB xs D m j = false) := fun b h1 h2 j hj => by
              by_cases h : j = k
              · subst h; rw [h1, h2]
              · exact HJ.out j (by omega)
            have HN := Lib.hid HN
            have h4 : k ≤ 4095 := by omega
            have HL := Lib.hid (l4Answers_c n _ _ k w1 (HV.out.ext X1.out) HP.out h4)
            by_cases hf : cnt k ≤ D
            · by_cases ha : answersOf xs k = m
              · have HG : Hid (goodB xs D m k = true) := by unfold goodB Hid; rw [few_iff.2 hf, ha]; simp
                rw [ha] at HL
                clear ha
                go_wp2_with (first | (go_at_call 94; refine (l1Count_c k (by omega) _).mono ?_; rintro e w' ⟨rfl, rfl⟩) | (go_at_call 116; refine HL.out.mono ?_; rintro e w' ⟨rfl, rfl⟩))
                go_ret2
                exact ⟨ret_pair' (leastP_some hlt HJ.out HG.out).symm, X1.out⟩
              · have HG : Hid (goodB xs D m k = false) := by unfold goodB Hid; rw [beq_eq_false_iff_ne.2 ha, Bool.and_false]
                have ha' : (((answersOf xs k : Nat) : Int) == (m : Int)) = false := by simp; omega
                clear ha
                go_wp2_with (first | (go_at_call 94; refine (l1Count_c k (by omega) _).mono ?_; rintro e w' ⟨rfl, rfl⟩) | (go_at_call 116; refine HL.out.mono ?_; rintro e w' ⟨rfl, rfl⟩))
                go_round
                case rel => exact ⟨k + 1, by omega, by go_num, HN.out _ HG.out rfl⟩
                case measure => simp [intOf]; omega
            · have HG : Hid (goodB xs D m k = false) := by unfold goodB Hid; rw [show fewB D k = false from by simp [fewB]; omega]; rfl
              go_wp2_with (first | (go_at_call 94; refine (l1Count_c k (by omega) _).mono ?_; rintro e w' ⟨rfl, rfl⟩))
              go_round
              case rel => exact ⟨k + 1, by omega, by go_num, HN.out _ HG.out rfl⟩
              case measure => simp [intOf]; omega
          · obtain rfl : k = p := by omega
            go_wp2
            go_ret2
            exact ⟨ret_pair' (leastP_none HJ.out).symm, X1.out⟩

set_option maxRecDepth 100000 in
set_option maxHeartbeats 1000000 in
theorem poolDecodeI_c (items : Int) (v : Value) (xs : List Int) (d ans : Int) (w : World) (hv : Rd w v xs) (hm : xs.length ≤ 1048576) :
    Calls Try.prog 72 #[.int .i64 items, v, .int .i64 d, .int .i64 ans] w fun e w' => e = .returned (pairV (poolDecode items xs d ans)) ∧ Ext w w' := by
  obtain ⟨a, c, rfl⟩ := hv.form
  obtain ⟨W, hW, hx, hsz, v0, v1, v2⟩ := three_new w (.int .i64 ans) (.int .i64 0) (.bool false) 3 3 4
  have HV := Lib.hid (hv.ext hx); clear hv
  have HM := Lib.hid hm
  have HW := Lib.hid hW; clear hW
  have HX0 := Lib.hid hx; clear hx
  have V0 := Lib.hid v0; have V1 := Lib.hid v1; have V2 := Lib.hid v2
  have HL : w.heap.size + 3 ≤ W.heap.size := by omega
  clear hsz v0 v1 v2
  refine calls_marks Try.func72 rfl ?_
  simp only [Try.ntmps72, List.size_toArray, List.length_cons, List.length_nil, Nat.reduceAdd, Nat.reduceSub, Array.replicate_succ, Array.replicate_zero, List.push_toArray, List.append_toArray, List.nil_append, List.cons_append]
  have hexit : Hid (∀ W' : World, Ext W W' → ∀ (tmps : Array Value), tmps.getD 8 undef = .pointer (some ⟨w.heap.size + 1, 0, none⟩) → tmps.getD 9 undef = .pointer (some ⟨w.heap.size + 1 + 1, 0, none⟩) → ∀ ds, Marks w.heap.size W' ds → ∀ (x : Int) (y : Bool) (r : Int × Bool), (x, y) = r →
      LeavesInM Fence.wide 0 Try.prog Try.f72 tmps (fun e w' => e = .returned (pairV r) ∧ Ext w w') ds .returning ((W'.setCell ⟨w.heap.size + 1, 0, none⟩ (.int .i64 x)).setCell ⟨w.heap.size + 1 + 1, 0, none⟩ (.bool y))) := fun W' hW' tmps h8 h9 ds hds x y r hr =>
    leave_pair rfl h8 h9 (((V1.out.ext hW').set _).other (by omega) _).cell (((V2.out.ext hW').other (by omega) _).set _).cell ((hds.setCell _ _).setCell _ _) (((HX0.out.trans hW').setCell (by show w.heap.size ≤ w.heap.size + 1; omega) _).setCell (by show w.heap.size ≤ w.heap.size + 1 + 1; omega) _) hr
  cases h0 : poolIn items xs
  · rw [show poolDecode items xs d ans = (0, false) from by unfold poolDecode; rw [h0]; rfl]
    go_wp2_with fail
    rw [← HW.out]
    refine (poolInI_c _ _ _ _ HV.out HM.out).mono ?_
    rintro e w1 ⟨rfl, x1⟩
    have X1 := Lib.hid x1; clear x1
    obtain ⟨c0, -, -⟩ := V0.out.ext X1.out
    obtain ⟨c1, f1, -⟩ := V1.out.ext X1.out
    obtain ⟨c2, f2, -⟩ := V2.out.ext X1.out
    have c2' := (((V2.out.ext X1.out).other (c := w.heap.size + 1) (by omega) (.int .i64 0))).cell
    go_wp2
    exact hexit.out _ X1.out _ rfl rfl _ (Marks.nil _ _) _ _ _ rfl
  · cases hs : setB ans xs.length
    · rw [show poolDecode items xs d ans = (0, false) from by unfold poolDecode; rw [hs, Bool.and_false]; rfl]
      obtain ⟨n, rfl, hP⟩ := poolIn_iff.1 h0
      have hl := hP.len
      have HP := Lib.hid hP; clear hP
      go_wp2_with fail
      rw [← HW.out]
      refine (poolInI_c _ _ _ _ HV.out HM.out).mono ?_
      rintro e w1 ⟨rfl, x1⟩
      have X1 := Lib.hid x1; clear x1
      obtain ⟨c0, -, -⟩ := V0.out.ext X1.out
      obtain ⟨c1, f1, -⟩ := V1.out.ext X1.out
      obtain ⟨c2, f2, -⟩ := V2.out.ext X1.out
      have c2' := (((V2.out.ext X1.out).other (c := w.heap.size + 1) (by omega) (.int .i64 0))).cell
      go_wp2_with (go_at_call 109; refine (isSet_c _ xs.length (by omega) _).mono ?_; rintro e w' ⟨rfl, rfl⟩)
      exact hexit.out _ X1.out _ rfl rfl _ (Marks.nil _ _) _ _ _ rfl
    · obtain ⟨n, rfl, hP⟩ := poolIn_iff.1 h0
      have hl := hP.len
      have hn := hP.le
      have HP := Lib.hid hP; clear hP
      cases hd : inB 0 d 3
      · rw [show poolDecode n xs d ans = (0, false) from by unfold poolDecode; rw [hd, Bool.and_false, Bool.false_and, if_neg (by decide)]]
        go_wp2_with fail
        rw [← HW.out]
        refine (poolInI_c _ _ _ _ HV.out HM.out).mono ?_
        rintro e w1 ⟨rfl, x1⟩
        have X1 := Lib.hid x1; clear x1
        obtain ⟨c0, -, -⟩ := V0.out.ext X1.out
        obtain ⟨c1, f1, -⟩ := V1.out.ext X1.out
        obtain ⟨c2, f2, -⟩ := V2.out.ext X1.out
        have c2' := (((V2.out.ext X1.out).other (c := w.heap.size + 1) (by omega) (.int .i64 0))).cell
        go_wp2_with (first | (go_at_call 109; refine (isSet_c _ xs.length (by omega) _).mono ?_; rintro e w' ⟨rfl, rfl⟩) | (go_at_call 124; refine (isFew_c _ _).mono ?_; rintro e w' ⟨rfl, rfl⟩))
        exact hexit.out _ X1.out _ rfl rfl _ (Marks.nil _ _) _ _ _ rfl
      · obtain ⟨D, rfl⟩ : ∃ D : Nat, d = D := ⟨d.toNat, by have := inB_iff.1 hd; omega⟩
        obtain ⟨m, rfl, hml⟩ := setB_iff.1 hs
        have hm4 : m ≤ 65535 := by have := pow_le_16 hl; omega
        clear hml
        rw [show poolDecode n xs D m = leastP (goodB xs D m) (2 ^ n) from by unfold poolDecode; rw [h0, hd, hs]; rfl]
        go_wp2_with fail
        rw [← HW.out]
        refine (poolInI_c _ _ _ _ HV.out HM.out).mono ?_
        rintro e w1 ⟨rfl, x1⟩
        have X1 := Lib.hid x1; clear x1
        obtain ⟨c0, -, -⟩ := V0.out.ext X1.out
        go_wp2_with (first | (go_at_call 109; refine (isSet_c _ xs.length (by omega) _).mono ?_; rintro e w' ⟨rfl, rfl⟩) | (go_at_call 124; refine (isFew_c _ _).mono ?_; rintro e w' ⟨rfl, rfl⟩))
        clear c0
        obtain ⟨Wp, hWp⟩ : ∃ W, W = w1.alloc (.cells #[.int .i64 (n : Int), .slice a xs.length c] 94) := ⟨_, rfl⟩
        rw [← hWp]
        have hxp : Ext W Wp := by rw [hWp]; exact X1.out.alloc _
        have hpc := two_cells (by rw [hWp]; exact World.alloc_heap_new w1 _ : Wp.heap[w1.heap.size]? = some (.cells #[.int .i64 (n : Int), .slice a xs.length c] 94 (0, 0)))
        have hlp : w1.heap.size < Wp.heap.size := by rw [hWp]; simp
        have HXP := Lib.hid hxp; have HPC := Lib.hid hpc; clear hWp hxp hpc
        refine (few_c _ _ _ _ _ _).mono ?_
        rintro e w' ⟨rfl, rfl⟩
        obtain ⟨W2, hW2⟩ : ∃ W2, W2 = (Wp.alloc (.cells #[.int .i64 (n : Int), .slice a xs.length c] 94)).alloc (.cells #[.int .i64 (D : Int)] 3) := ⟨_, rfl⟩
        rw [← hW2]
        have hx2 : Ext Wp W2 := by rw [hW2]; exact ((Ext.refl _).alloc _).alloc _
        have hq1 : W2.cell? ⟨Wp.heap.size, 0, none⟩ = some (.int .i64 n) := by
          rw [hW2]
          have h := (two_cells (World.alloc_heap_new Wp (.cells #[.int .i64 (n : Int), .slice a xs.length c] 94))).1
          exact (((Ext.refl _).alloc _).cell (by simp)).trans h
        have hq2 : W2.cell? ⟨Wp.heap.size + 1, 0, none⟩ = some (.int .i64 D) := by
          rw [hW2]
          have h := (Var.new (Wp.alloc (.cells #[.int .i64 (n : Int), .slice a xs.length c] 94)) (.int .i64 D) 3).cell
          rw [World.size_alloc] at h; exact h
        have hs2 : W2.heap.size = Wp.heap.size + 2 := by rw [hW2]; simp
        have HX2 := Lib.hid hx2; have HQ1 := Lib.hid hq1; have HQ2 := Lib.hid hq2; have HS2 := Lib.hid hs2; clear hW2 hx2 hq1 hq2 hs2
        go_wp2
        refine wp_range (few_iter Wp.heap.size (Wp.heap.size + 1) n D hn) rfl few_enters rfl
          (fun k W' => (∀ j, j < k → goodB xs D m j = false) ∧ Ext W2 W')
          (fun cc W' => cc = .ret ∧ (∃ k : Nat, leastP (goodB xs D m) (2 ^ n) = (((k : Nat) : Int), true) ∧ W'.cell? ⟨w.heap.size + 1, 0, none⟩ = some (.int .i64 k) ∧ W'.cell? ⟨w.heap.size + 1 + 1, 0, none⟩ = some (.bool true)) ∧ Ext w W')
          ?hI ?hIx ?hKi ?h0 ?hskip ?hround ?hdone ?hstop
        case hI =>
          rintro j W' W'' hB ⟨h1, h2⟩
          exact ⟨h1, h2.book (Nat.le_refl _) hB⟩
        case hIx =>
          rintro cc W' W'' hB ⟨h1, ⟨k, h2, h3, h4⟩, h5⟩
          exact ⟨h1, ⟨k, h2, hB.cell h3, hB.cell h4⟩, h5.book (((HX0.out.trans HXP.out).trans HX2.out).size) hB⟩
        case hKi =>
          rintro j W' ⟨_, h2⟩
          have hs2 := HS2.out
          exact ⟨(h2.cell (by omega)).trans HQ1.out, (h2.cell (by omega)).trans HQ2.out, by have := h2.size; omega, by have := h2.size; omega⟩
        case h0 => exact ⟨fun j hj => absurd hj (Nat.not_lt_zero j), Ext.refl _⟩
        case hskip =>
          rintro j W' hj hp ⟨h1, h2⟩
          exact ⟨fun i hi => by
            by_cases h : i = j
            · subst h; unfold goodB; rw [hp]; rfl
            · exact h1 i (by omega), h2⟩
        case hround =>
          rintro l j W' hj hp ⟨h1, h2⟩ hsz
          have H1 := Lib.hid h1; have H2 := Lib.hid h2; have HP1 := Lib.hid hp; clear h1 h2 hp
          have hj4 : j ≤ 4095 := by have := pow_le_12 hn; omega
          gi_wp2
          refine ⟨KeepsFrom.refl _ _, fun W'' hB => ?_⟩
          have hE : Hid (Ext W2 W'') := H2.out.book (Nat.le_refl _) hB
          clear hB H2
          have E0 : Hid (Ext W W'') := (HXP.out.trans HX2.out).trans hE.out
          have EP : Hid (Ext Wp W'') := HX2.out.trans hE.out
          have k1 : ∀ u, (clip W'' u).cell? ⟨w1.heap.size, 0, none⟩ = some (.int .i64 n) := fun u => ((EP.out.trans (clip_ext W'' u)).cell hlp).trans HPC.out.1
          have k2 : ∀ u, (clip W'' u).cell? ⟨w1.heap.size, 1, none⟩ = some (.slice a xs.length c) := fun u => ((EP.out.trans (clip_ext W'' u)).cell hlp).trans HPC.out.2
          have k3 : ∀ u, (clip W'' u).cell? ⟨w.heap.size, 0, none⟩ = some (.int .i64 m) := fun u => (V0.out.ext (E0.out.trans (clip_ext W'' u))).cell
          have HA := Lib.hid fun u => answers_c n n (.slice a xs.length c) xs j (clip W'' u) (HV.out.ext (E0.out.trans (clip_ext W'' u))) HP.out hj4
          by_cases ha : answersOf xs j = m
          · have HG : Hid (goodB xs D m j = true) := by unfold goodB Hid; rw [HP1.out, ha]; simp
            simp only [ha] at HA
            clear ha
            gi_wp2
            refine wpIn_quiet (ro := some l) (C := fun w' => ∃ u, w' = clip W'' u) (by kernel_rfl) (by kernel_rfl) (by kernel_rfl) ⟨_, (clip_of (Ext.refl W'').drew).symm⟩ ?_
            repeat (go_big_quiet_step ((go_at_call 112; exact Calls.clip_of (HA.out _))))
            refine wpQuiet_nil ?_
            rintro _ ⟨u', rfl⟩
            have X3 := Lib.hid (E0.out.trans (clip_ext W'' u'))
            obtain ⟨q1, r1, -⟩ := V1.out.ext X3.out
            obtain ⟨q2, r2, -⟩ := V2.out.ext X3.out
            have q2' := (((V2.out.ext X3.out).other (c := w.heap.size + 1) (by omega) (.int .i64 (j : Int)))).cell
            gi_wp2
            exact ⟨((KeepsFrom.of_ext (clip_ext W'' u')).trans (KeepsFrom.setCell' _ _ _ _)).trans (KeepsFrom.setCell' _ _ _ _), rfl, ⟨j, leastP_some hj H1.out HG.out, (((V1.out.ext X3.out).set _).other (by omega) _).cell, (((V2.out.ext X3.out).other (by omega) _).set _).cell⟩,
              (((HX0.out.trans X3.out).setCell (by show w.heap.size ≤ w.heap.size + 1; omega) _).setCell (by show w.heap.size ≤ w.heap.size + 1 + 1; omega) _)⟩
          · have HG : Hid (goodB xs D m j = false) := by unfold goodB Hid; rw [beq_eq_false_iff_ne.2 ha, Bool.and_false]
            have ha' : (((answersOf xs j : Nat) : Int) == (m : Int)) = false := by simp; omega
            clear ha
            gi_wp2
            refine wpIn_quiet (ro := some l) (C := fun w' => ∃ u, w' = clip W'' u) (by kernel_rfl) (by kernel_rfl) (by kernel_rfl) ⟨_, (clip_of (Ext.refl W'').drew).symm⟩ ?_
            repeat (go_big_quiet_step ((go_at_call 112; exact Calls.clip_of (HA.out _))))
            refine wpQuiet_nil ?_
            rintro _ ⟨u', rfl⟩
            gi_wp2
            exact ⟨KeepsFrom.of_ext (clip_ext W'' u'), fun i hi => by
              by_cases h : i = j
              · subst h; exact HG.out
              · exact H1.out i (by omega), hE.out.trans (clip_ext W'' u')⟩
        case hdone =>
          rintro D' W' hD ⟨h1, h2⟩ hDD
          have H1 := Lib.hid h1; have H2 := Lib.hid h2; have HD := Lib.hid hDD; clear h1 h2 hDD
          have X3 := Lib.hid ((HXP.out.trans HX2.out).trans H2.out)
          obtain ⟨q1, r1, -⟩ := V1.out.ext X3.out
          obtain ⟨q2, r2, -⟩ := V2.out.ext X3.out
          have q2' := (((V2.out.ext X3.out).other (c := w.heap.size + 1) (by omega) (.int .i64 0))).cell
          go_wp2
          exact hexit.out _ X3.out _ rfl rfl _ ((Marks.nil _ _).cons (n := W2.heap.size) (fun k hk => by obtain ⟨_, hk, _⟩ := hk; cases hk) hD (Nat.le_trans (((HX0.out.trans HXP.out).trans HX2.out).size) hD) HD.out) _ _ _ (leastP_none H1.out).symm
        case hstop =>
          rintro D' cc W' hD ⟨rfl, ⟨k, h2, h3, h4⟩, h5⟩ hDD
          go_wp2
          exact leave_pair rfl rfl rfl h3 h4 ((Marks.nil _ _).cons (n := W2.heap.size) (fun k hk => by obtain ⟨_, hk, _⟩ := hk; cases hk) hD (Nat.le_trans (((HX0.out.trans HXP.out).trans HX2.out).size) hD) hDD) h5 h2.symm
end Go.Proofs.Ytnpkkfaidejljaa
