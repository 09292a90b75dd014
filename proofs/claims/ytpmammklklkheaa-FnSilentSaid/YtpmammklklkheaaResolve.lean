/- Resolving codes: the program computes the plain function. No condition. -/
import Derived.Test.YtpmammklklkheaaCodeR
import Derived.Test.YtpmammklklkheaaUnlike
namespace Go.Proofs.Ytpmammklklkheaa
open Go.RowKit
open BigFrame
attribute [local go_sem] Oper.semAt_some

theorem leave_tmp {fn : Func} {p : Tmp} {v v0 : Value} {w W : World} {tmps : Array Value} {ds : List Deferred} (hr : fn.results = #[.tmp p])
    (hp : tmps.getD p undef = v) (hm : Marks w.heap.size W ds) (hx : Ext w W) (hv : v = v0) :
    LeavesInM Fence.wide 0 Try.prog fn tmps (fun e w' => e = .returned v0 ∧ Ext w w') ds .returning W := by
  subst hv
  refine leaves_marks (B := w.heap.size) v _ _ hm fun W' hW' => ⟨?_, rfl, hx.book (Nat.le_refl _) hW'⟩
  rw [← hp]
  simp [results, hr]
theorem IsBook.tab {w : World} {b : Nat} {g : List Int} {v vb vf : Value} {vs : List Value} (h : IsBook w b g v vb vf vs) : IsTab w g vf vs :=
  ⟨h.hf, h.len, fun i hi => (h.row i hi).elim fun _ h => h.rd⟩
theorem farP_symm {g : List Int} (hg : IsGraph g) (s i k c : Nat) : farP g s i k c = (s.testBit c && decide (dd g c i ≠ dd g c k)) := by
  unfold farP
  rw [dd_symm hg i c, dd_symm hg k c]
theorem Var.step {w W V : World} {b : Nat} {v : Value} (h : Var w b v) (hx : Ext w W) (hV : Ext W V) : Var V b v := h.ext (hx.trans hV)

set_option maxRecDepth 100000 in
set_option maxHeartbeats 4000000 in
theorem resolves_c (b : Nat) (v vb vf : Value) (vs : List Value) (g : List Int) (s : Nat) (w : World) (hb : IsBook w b g v vb vf vs) (hg : IsGraph g) (hs : s < 2 ^ g.length) (hv : ∃ a c, v = .slice a g.length c) :
    Calls Try.prog 105 #[.pointer (some ⟨b, 0, none⟩), .int .i64 s] w fun e w' => e = .returned (.bool (resN g s)) ∧ Ext w w' := by
  obtain ⟨a, c, rfl⟩ := hv
  obtain ⟨bt, ct, rfl, hbt, hget⟩ := hb.tab.get hg
  obtain ⟨W, hW⟩ : ∃ W, W = w.alloc (.cells #[.pointer (some ⟨b, 0, none⟩)] 55) := ⟨_, rfl⟩
  have hx0 : Ext w W := by rw [hW]; exact (Ext.refl _).alloc _
  have v0 : Var W w.heap.size (.pointer (some ⟨b, 0, none⟩)) := by rw [hW]; exact Var.new _ _ _
  have HB := Lib.hid (hb.ext hx0); have HT := Lib.hid fun i (hi : i < g.length) => hget i hi
  have c0 := v0.cell
  have c1 := HB.out.graph
  rw [hW] at c0 c1
  have HX0 := Lib.hid hx0; have V0 := Lib.hid v0; have HW := Lib.hid hW
  have HG := Lib.hid hg
  have hl := hg.le
  have hs4 : s ≤ 4095 := by have := pow_le_12 hl; omega
  have HS := Lib.hid hs
  clear hb hget hx0 v0 hW hg hs
  refine calls_marks Try.func105 rfl ?_
  simp only [Try.ntmps105, List.size_toArray, List.length_cons, List.length_nil, Nat.reduceAdd, Nat.reduceSub, Array.replicate_succ, Array.replicate_zero, List.push_toArray, List.append_toArray, List.nil_append, List.cons_append]
  go_wp2
  rw [← HW.out]
  clear c0 c1
  refine wp_loop_marks [5, 6, 7, 8, 14, 15, 16, 17, 18, 19, 20, 21, 22, 23, 24, 25, 26, 27, 28, 29, 30, 31, 32, 33, 34, 35, 36, 37, 38, 39, 40, 41, 42, 43, 44, 45, 46, 47, 48, 49, 50, 51]
    (fun u ds wr => ∃ k : Nat, k ≤ g.length ∧ u 14 = .int .i64 k ∧ (∀ j, j < k → resRow g s j = true) ∧ Ext W wr ∧ Marks w.heap.size wr ds)
    (fun u _ => g.length - (intOf (u 14)).toNat) ⟨0, Nat.zero_le _, rfl, fun j hj => absurd hj (Nat.not_lt_zero j), Ext.refl _, Marks.nil _ _⟩ ?_
  rintro u ds w2 ⟨i, hi, hu, hj, hx, hm⟩ K HK
  simp only [fillFrom, List.contains_cons, List.contains_nil, Nat.reduceBEq, Nat.reduceAdd, Bool.or_false, Bool.or_true, if_true, if_false, Bool.false_eq_true, hu] at ⊢
  have HU := Lib.hid hu; have HM2 := Lib.hid hm; have HI := Lib.hid hj; have HX := Lib.hid hx
  clear hu hm hj hx
  by_cases hlt : i < g.length
  · obtain ⟨V, hV⟩ : ∃ V, V = w2.alloc (.cells #[.int .i64 (i : Int)] 3) := ⟨_, rfl⟩
    have hxv : Ext w2 V := by rw [hV]; exact (Ext.refl _).alloc _
    have hvv : Var V w2.heap.size (.int .i64 i) := by rw [hV]; exact Var.new _ _ _
    have k1 := hvv.cell
    rw [hV] at k1
    have HXV := Lib.hid (HX.out.trans hxv); have HVV := Lib.hid hvv; have HVe := Lib.hid hV
    have HMV := Lib.hid (HM2.out.ext hxv)
    clear hxv hvv hV HX
    go_wp2
    rw [← HVe.out]
    clear k1
    refine wp_loop_marks [6, 7, 8, 18, 19, 20, 21, 22, 23, 24, 25, 26, 27, 28, 29, 30, 31, 32, 33, 34, 35, 36, 37, 38, 39, 40, 41, 42, 43, 44, 45, 46, 47, 48, 49, 50]
      (fun u ds wr => ∃ k : Nat, k ≤ i ∧ u 18 = .int .i64 k ∧ (∀ j, j < k → resP g s i j = true) ∧ Ext V wr ∧ Marks w.heap.size wr ds)
      (fun u _ => i - (intOf (u 18)).toNat) ⟨0, Nat.zero_le _, rfl, fun j hj => absurd hj (Nat.not_lt_zero j), Ext.refl _, HMV.out⟩ ?_
    rintro u2 ds2 w3 ⟨k, hk, hu2, hj, hx, hm⟩ K2 HK2
    simp only [fillFrom, List.contains_cons, List.contains_nil, Nat.reduceBEq, Nat.reduceAdd, Bool.or_false, Bool.or_true, if_true, if_false, Bool.false_eq_true, hu2] at ⊢
    have HU2 := Lib.hid hu2; have HM3 := Lib.hid hm; have HJ := Lib.hid hj; have HX3 := Lib.hid hx
    clear hu2 hm hj hx HMV
    by_cases hlk : k < i
    · obtain ⟨V2, hV2⟩ : ∃ V, V = (w3.alloc (.cells #[.int .i64 (k : Int)] 3)).alloc (.cells #[.bool false] 4) := ⟨_, rfl⟩
      have hx2 : Ext w3 V2 := by rw [hV2]; exact ((Ext.refl _).alloc _).alloc _
      have hvk : Var V2 w3.heap.size (.int .i64 k) := by rw [hV2]; exact (Var.new _ _ _).ext ((Ext.refl _).alloc _)
      have hvf : Var V2 (w3.heap.size + 1) (.bool false) := by
        rw [hV2]
        have := Var.new (w3.alloc (.cells #[.int .i64 (k : Int)] 3)) (.bool false) 4
        rw [World.size_alloc] at this
        exact this
      have HV2 := Lib.hid hV2; have HX2 := Lib.hid hx2; have HVK := Lib.hid hvk; have HVF := Lib.hid hvf
      clear hV2 hx2 hvk hvf
      go_wp2_with fail
      rw [← HV2.out]
      refine (nodes_c _ _).mono ?_
      rintro e w' ⟨rfl, rfl⟩
      obtain ⟨W4, hW4⟩ : ∃ V, V = V2.alloc (.cells #[.int .i64 (s : Int)] 3) := ⟨_, rfl⟩
      rw [← hW4]
      have hx4 : Ext V2 W4 := by rw [hW4]; exact (Ext.refl _).alloc _
      have hvs : Var W4 V2.heap.size (.int .i64 s) := by rw [hW4]; exact Var.new _ _ _
      have HVS := Lib.hid hvs; have HX4 := Lib.hid (HX2.out.trans hx4); have HVK4 := Lib.hid (HVK.out.ext hx4); have HVF4 := Lib.hid (HVF.out.ext hx4)
      have HM4 := Lib.hid (HM3.out.ext (HX2.out.trans hx4))
      have l1 := HVV.out.lt
      have l2 : V.heap.size ≤ w3.heap.size := HX3.out.size
      have l3 : w3.heap.size + 1 < V2.heap.size := HVF.out.lt
      have l4 : V2.heap.size < W4.heap.size := hvs.lt
      clear hW4 hx4 hvs HVK HVF
      go_wp2
      refine wp_range (nodes_iter V2.heap.size s g.length HS.out (by omega)) rfl nodes_enters rfl
        (fun y W' => Var W' (w3.heap.size + 1) (.bool ((List.range y).any (farP g s i k))) ∧ Var W' w3.heap.size (.int .i64 k) ∧ Var W' V2.heap.size (.int .i64 s) ∧ Ext w3 W' ∧ Marks w.heap.size W' ds2 ∧ W4.heap.size ≤ W'.heap.size)
        (fun _ _ => False)
        ?hI ?hIx ?hKi ?h0 ?hskip ?hround ?hdone ?hstop
      case hI =>
        rintro j W' W'' hB ⟨h1, h2, h3, h4, h5, h6⟩
        exact ⟨h1.book hB (by omega), h2.book hB (by omega), h3.book hB (by omega), h4.book (by omega) hB, h5.book hB (fun k hk => by have := HM3.out.lt k hk; omega), Nat.le_trans h6 hB.size⟩
      case hIx => exact fun _ _ _ _ h => h
      case hKi =>
        rintro j W' ⟨_, _, h3, _⟩
        exact h3.cell
      case h0 => exact ⟨HVF4.out, HVK4.out, HVS.out, HX4.out, HM4.out, Nat.le_refl _⟩
      case hskip =>
        rintro j W' hj hp ⟨h1, h2⟩
        refine ⟨?_, h2⟩
        have : farP g s i k j = false := by unfold farP; rw [hp]; rfl
        rw [any_succ, this, Bool.or_false]
        exact h1
      case hround =>
        rintro l j W' hj hp ⟨h1, h2, h3, h4, h5, h6⟩ hsz
        gi_wp2
        refine ⟨KeepsFrom.refl _ _, fun W'' hB => ?_⟩
        have H1 : Hid (Var W'' (w3.heap.size + 1) (.bool ((List.range j).any (farP g s i k)))) := h1.book hB (by omega)
        have H2 : Hid (Var W'' w3.heap.size (.int .i64 k)) := h2.book hB (by omega)
        have H3 : Hid (Var W'' V2.heap.size (.int .i64 s)) := h3.book hB (by omega)
        have H4 : Hid (Ext w3 W'') := h4.book (by omega) hB
        have H5 : Hid (Marks w.heap.size W'' ds2) := h5.book hB (fun k hk => by have := HM3.out.lt k hk; omega)
        have l9 : W4.heap.size ≤ W''.heap.size := Nat.le_trans h6 hB.size
        have HFP : Hid (farP g s i k j = decide (dd g j i ≠ dd g j k)) := by unfold Hid; rw [farP_symm HG.out, hp, Bool.true_and]
        have HEW : Hid (Ext W W'') := HXV.out.trans (HX3.out.trans H4.out)
        clear h1 h2 h3 h4 h5 h6 hB hp hsz
        obtain ⟨r, o, cr, hr1, hr2⟩ := HT.out j hj
        have m1 := fun u => (H1.out.ext (clip_ext W'' u)).cell
        have m2 := fun u => (V0.out.ext (HEW.out.trans (clip_ext W'' u))).cell
        have m3 := fun u => (HB.out.ext (HEW.out.trans (clip_ext W'' u))).far
        have m4 := fun u => hr1 _ (HX0.out.trans (HEW.out.trans (clip_ext W'' u)))
        have m5 := fun u => (HVV.out.ext (HX3.out.trans (H4.out.trans (clip_ext W'' u)))).cell
        have m6 := fun u => (H2.out.ext (clip_ext W'' u)).cell
        have m7 := fun u => hr2 i hlt _ (HX0.out.trans (HEW.out.trans (clip_ext W'' u)))
        have m8 := fun u => hr2 k (by omega) _ (HX0.out.trans (HEW.out.trans (clip_ext W'' u)))
        have hd1 := dd_le g j i
        have hd2 := dd_le g j k
        obtain ⟨di, hdi⟩ : ∃ d, d = dd g j i := ⟨_, rfl⟩
        obtain ⟨dk, hdk⟩ : ∃ d, d = dd g j k := ⟨_, rfl⟩
        rw [← hdi] at m7 hd1 HFP
        rw [← hdk] at m8 hd2 HFP
        have fin : Hid (∀ (u : World) (nw : Bool), nw = ((List.range j).any (farP g s i k) || farP g s i k j) → KeepsFrom W4.heap.size W'' ((clip W'' u).setCell ⟨w3.heap.size + 1, 0, none⟩ (.bool nw)) ∧ Var ((clip W'' u).setCell ⟨w3.heap.size + 1, 0, none⟩ (.bool nw)) (w3.heap.size + 1) (.bool ((List.range (j + 1)).any (farP g s i k))) ∧ Var ((clip W'' u).setCell ⟨w3.heap.size + 1, 0, none⟩ (.bool nw)) w3.heap.size (.int .i64 k) ∧ Var ((clip W'' u).setCell ⟨w3.heap.size + 1, 0, none⟩ (.bool nw)) V2.heap.size (.int .i64 s) ∧ Ext w3 ((clip W'' u).setCell ⟨w3.heap.size + 1, 0, none⟩ (.bool nw)) ∧ Marks w.heap.size ((clip W'' u).setCell ⟨w3.heap.size + 1, 0, none⟩ (.bool nw)) ds2 ∧ W4.heap.size ≤ ((clip W'' u).setCell ⟨w3.heap.size + 1, 0, none⟩ (.bool nw)).heap.size) := by
          intro u nw hnw
          have xc := clip_ext W'' u
          rw [any_succ, ← hnw]
          exact ⟨(KeepsFrom.of_ext xc).trans (KeepsFrom.setCell' _ _ _ _), (H1.out.ext xc).set _, (H2.out.ext xc).other (by omega) _, (H3.out.ext xc).other (by omega) _, (H4.out.trans xc).setCell (by show w3.heap.size ≤ w3.heap.size + 1; omega) _, (H5.out.ext xc).setCell _ _, by have := xc.size; simp; omega⟩
        have mf := fun u => (H1.out.ext (clip_ext W'' u)).frozen
        clear hr1 hr2 hdi hdk
        cases hany : (List.range j).any (farP g s i k)
        · rw [hany] at m1 fin
          clear hany
          by_cases he : di = dk
          · have he' : ((di : Int) != (dk : Int)) = false := by simp [he]
            have HF0 : Hid (farP g s i k j = false) := by unfold Hid; rw [HFP.out]; simp [he]
            clear he
            gi_wp2
            refine wpIn_quiet_tail (ro := some l) (C := fun w' => ∃ u, w' = clip W'' u) 24 (by kernel_rfl) (by kernel_rfl) (by kernel_rfl) ⟨_, (clip_of (Ext.refl W'').drew).symm⟩ ?_
            simp only [List.take_succ_cons, List.take_zero, List.drop_succ_cons, List.drop_zero]
            repeat (go_big_quiet_step (fail))
            refine wpQuiet_nil ?_
            rintro _ ⟨u, rfl⟩
            gi_wp2
            exact fin.out u _ (by rw [HF0.out]; rfl)
          · have he' : ((di : Int) != (dk : Int)) = true := by simp; omega
            have HF0 : Hid (farP g s i k j = true) := by unfold Hid; rw [HFP.out]; simp [he]
            clear he
            gi_wp2
            refine wpIn_quiet_tail (ro := some l) (C := fun w' => ∃ u, w' = clip W'' u) 24 (by kernel_rfl) (by kernel_rfl) (by kernel_rfl) ⟨_, (clip_of (Ext.refl W'').drew).symm⟩ ?_
            simp only [List.take_succ_cons, List.take_zero, List.drop_succ_cons, List.drop_zero]
            repeat (go_big_quiet_step (fail))
            refine wpQuiet_nil ?_
            rintro _ ⟨u, rfl⟩
            gi_wp2
            exact fin.out u _ (by rw [HF0.out]; rfl)
        · rw [hany] at m1 fin
          clear hany
          gi_wp2
          refine wpIn_quiet_tail (ro := some l) (C := fun w' => ∃ u, w' = clip W'' u) 24 (by kernel_rfl) (by kernel_rfl) (by kernel_rfl) ⟨_, (clip_of (Ext.refl W'').drew).symm⟩ ?_
          simp only [List.take_succ_cons, List.take_zero, List.drop_succ_cons, List.drop_zero]
          repeat (go_big_quiet_step (fail))
          refine wpQuiet_nil ?_
          rintro _ ⟨u, rfl⟩
          gi_wp2
          exact fin.out u _ rfl
      case hdone =>
        rintro D' W' hD ⟨h1, h2, h3, h4, h5, h6⟩ hDD
        have H4 := Lib.hid h4; have H5 := Lib.hid h5; have HDD := Lib.hid hDD
        have HMD := Lib.hid (h5.cons (n := W4.heap.size) (fun k hk => by have := HM3.out.lt k hk; omega) hD (Nat.le_trans ((HX0.out.trans (HXV.out.trans (HX3.out.trans HX4.out))).size) hD) hDD)
        have m1 := h1.cell
        clear h1 h2 h3 h4 h5 h6 hDD
        cases hr : resP g s i k
        · rw [show (List.range g.length).any (farP g s i k) = false from hr] at m1
          have HF : Hid (resN g s = false) := by
            unfold Hid resN
            refine bears_false hlt ?_
            unfold resRow
            exact bears_false hlk hr
          clear hr
          go_wp2
          exact leave_tmp rfl rfl HMD.out (HX0.out.trans (HXV.out.trans (HX3.out.trans H4.out))) (by rw [HF.out]; rfl)
        · rw [show (List.range g.length).any (farP g s i k) = true from hr] at m1
          have HR := Lib.hid hr
          clear hr
          go_wp2
          refine HK2.out _ _ _ rfl ⟨k + 1, by omega, by go_num, fun j hj => ?_, HX3.out.trans H4.out, HMD.out⟩ (by simp [intOf, HU2.out]; omega)
          by_cases h : j = k
          · subst h; exact HR.out
          · exact HJ.out j (by omega)
      case hstop => exact fun _ _ _ _ h _ => h.elim
    · obtain rfl : k = i := by omega
      go_wp2
      refine HK.out _ _ _ rfl ⟨k + 1, by omega, by go_num, fun j hj => ?_, HXV.out.trans HX3.out, HM3.out⟩ (by simp [intOf, HU.out]; omega)
      by_cases h : j = k
      · subst h; exact bears_true HJ.out
      · exact HI.out j (by omega)
  · obtain rfl : i = g.length := by omega
    go_wp2
    exact leave_tmp rfl rfl HM2.out (HX0.out.trans HX.out) (by rw [show resN g s = true from bears_true HI.out]; rfl)
end Go.Proofs.Ytpmammklklkheaa
