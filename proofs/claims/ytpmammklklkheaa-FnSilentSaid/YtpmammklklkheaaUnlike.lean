/- Whether unlike nodes of a set have unlike marks: the program computes the plain function. No condition. -/
import Derived.Test.YtpmammklklkheaaTells
import Derived.Test.YtpmammklklkheaaCode
namespace Go.Proofs.Ytpmammklklkheaa
open Go.RowKit
open BigFrame
attribute [local go_sem] Oper.semAt_some

def seenM (g : List Int) (s A k a : Nat) : Bool := (List.range k).any fun j => A.testBit j && (markN g s j == a)
def unlikeN (g : List Int) (s A : Nat) : Bool := (List.range g.length).all fun k => !(A.testBit k && seenM g s A k (markN g s k))
theorem seenM_skip {g : List Int} {s A k : Nat} (h : A.testBit k = false) (a : Nat) : seenM g s A (k + 1) a = seenM g s A k a := by
  unfold seenM
  rw [List.range_succ, List.any_append]
  simp [h]
theorem seenM_next {g : List Int} {s A k : Nat} (h : A.testBit k = true) (a : Nat) : seenM g s A (k + 1) a = (seenM g s A k a || (markN g s k == a)) := by
  unfold seenM
  rw [List.range_succ, List.any_append]
  simp [h]
theorem unlikeN_false {g : List Int} {s A k : Nat} (hk : k < g.length) (h : A.testBit k = true) (hs : seenM g s A k (markN g s k) = true) : unlikeN g s A = false := by
  unfold unlikeN
  rw [List.all_eq_false]
  exact ⟨k, List.mem_range.2 hk, by rw [h, hs]; decide⟩
theorem unlikeN_true {g : List Int} {s A : Nat} (h : ∀ k, k < g.length → A.testBit k = true → seenM g s A k (markN g s k) = false) : unlikeN g s A = true := by
  unfold unlikeN
  rw [List.all_eq_true]
  intro k hk
  cases hf : A.testBit k
  · rfl
  · rw [h k (List.mem_range.1 hk) hf]; rfl
theorem unlikeN_apart {g : List Int} {s A : Nat} {al : Bool} (h : ∀ j, j < g.length → A.testBit j = (al || !s.testBit j)) : unlikeN g s A = apartN g s al := by
  rw [Bool.eq_iff_iff]
  unfold unlikeN apartN apartRow sameP seenM
  simp only [List.all_eq_true, List.mem_range, Bool.not_eq_true', Bool.and_eq_false_iff, List.any_eq_false, Bool.and_eq_true, beq_iff_eq, not_and, Bool.or_eq_false_iff, decide_eq_false_iff_not, Bool.not_eq_false']
  constructor
  · intro H i hi k hk
    have hk' : k < g.length := by omega
    cases al
    · have h1 := h i hi
      have h2 := h k hk'
      simp only [Bool.false_or] at h1 h2
      cases hsi : s.testBit i
      · cases hsk : s.testBit k
        · rw [hsi] at h1
          rw [hsk] at h2
          rcases H i hi with h3 | h3
          · rw [h3] at h1; cases h1
          · exact .inr fun e => h3 k hk h2 e.symm
        · exact .inl ⟨rfl, .inr rfl⟩
      · exact .inl ⟨rfl, .inl rfl⟩
    · rcases H i hi with h3 | h3
      · rw [h i hi] at h3; cases h3
      · exact .inr fun e => h3 k hk (by rw [h k hk']; rfl) e.symm
  · intro H i hi
    cases hA : A.testBit i
    · exact .inl rfl
    · refine .inr fun k hk hAk e => ?_
      have hk' : k < g.length := by omega
      rcases H i hi k hk with ⟨h1, h2⟩ | h1
      · rw [h i hi, h1] at hA
        rw [h k hk', h1] at hAk
        rcases h2 with h2 | h2
        · rw [h2] at hA; cases hA
        · rw [h2] at hAk; cases hAk
      · exact h1 e.symm
def SeenMapM (w : World) (b : Nat) (g : List Int) (s A k : Nat) : Prop := ∃ f, IntMap w b f ∧ ∀ a : Nat, f (a : Int) = if seenM g s A k a then some (.bool true) else none

set_option maxRecDepth 100000 in
set_option maxHeartbeats 2000000 in
theorem unlike_c (v : Value) (g : List Int) (s A : Nat) (w : World) (hv : Rd w v (marksTo g s g.length)) (hg : IsGraph g) (hA : A < 2 ^ g.length) :
    Calls Try.prog 107 #[v, .int .i64 A] w fun e w' => e = .returned (.bool (unlikeN g s A)) ∧ Ext w w' := by
  obtain ⟨a, c, rfl⟩ := hv.form
  rw [marksTo_length] at hv ⊢
  obtain ⟨W, hW⟩ : ∃ W, W = (w.alloc (.cells #[.slice a g.length c] 23)).alloc (.cells #[.bool false] 4) := ⟨_, rfl⟩
  have hx : Ext w W := by rw [hW]; exact ((Ext.refl _).alloc _).alloc _
  have vm : Var W w.heap.size (.slice a g.length c) := by rw [hW]; exact (Var.new _ _ _).ext ((Ext.refl _).alloc _)
  have v0 : Var W (w.heap.size + 1) (.bool false) := by
    rw [hW]
    have := Var.new (w.alloc (.cells #[.slice a g.length c] 23)) (.bool false) 4
    rw [World.size_alloc] at this
    exact this
  have hs0 : W.heap.size = w.heap.size + 2 := by rw [hW]; simp
  have HV := Lib.hid (hv.ext hx); clear hv
  have HG := Lib.hid hg
  have hl := hg.le
  have HW := Lib.hid hW; have HX0 := Lib.hid hx; have V0 := Lib.hid v0; have VM := Lib.hid vm
  have hmk : ∀ w : World, (Instr.makeMap 68 none).run Try.prog w = .ok (.map (some w.heap.size)) (w.alloc (.map #[] 0)) := fun w => rfl
  clear hW hx v0 vm hg
  refine calls_marks Try.func107 rfl ?_
  simp only [Try.ntmps107, List.size_toArray, List.length_cons, List.length_nil, Nat.reduceAdd, Nat.reduceSub, Array.replicate_succ, Array.replicate_zero, List.push_toArray, List.append_toArray, List.nil_append, List.cons_append]
  go_wp2_with fail
  rw [← HW.out]
  clear hmk
  obtain ⟨Wb, hWb⟩ : ∃ V, V = W.alloc (.map #[] 0) := ⟨_, rfl⟩
  rw [← hWb]
  have hmb : IntMap Wb W.heap.size (fun _ => none) := by rw [hWb]; exact IntMap.empty W
  have hsb : Wb.heap.size = W.heap.size + 1 := by rw [hWb, World.size_alloc]
  have hxb : Ext W Wb := by rw [hWb]; exact (Ext.refl _).alloc _
  obtain ⟨Wc, hWc⟩ : ∃ V, V = Wb.alloc (.cells #[.map (some (w.heap.size + 1 + 1))] 68) := ⟨_, rfl⟩
  rw [← hWc]
  have hvc : Var Wc (w.heap.size + 1 + 1 + 1) (.map (some (w.heap.size + 1 + 1))) := by
    rw [hWc]
    have := Var.new Wb (.map (some (w.heap.size + 1 + 1))) 68
    rw [hsb, hs0] at this
    exact this
  have hsc : Wc.heap.size = w.heap.size + 4 := by rw [hWc, World.size_alloc, hsb, hs0]
  have hxc : Ext Wb Wc := by rw [hWc]; exact (Ext.refl _).alloc _
  refine (nodes_c _ _).mono ?_
  rintro e w' ⟨rfl, rfl⟩
  obtain ⟨W2, hW2⟩ : ∃ V, V = Wc.alloc (.cells #[.int .i64 (A : Int)] 3) := ⟨_, rfl⟩
  rw [← hW2]
  have hx2 : Ext Wc W2 := by rw [hW2]; exact (Ext.refl _).alloc _
  have hva : Var W2 Wc.heap.size (.int .i64 A) := by rw [hW2]; exact Var.new _ _ _
  have hs2 : W2.heap.size = Wc.heap.size + 1 := by rw [hW2]; simp
  have HX2 := Lib.hid (hxb.trans (hxc.trans hx2))
  have HMB : Hid (IntMap W2 (w.heap.size + 1 + 1) (fun _ => none)) := by
    have := hmb.ext (hxc.trans hx2)
    rw [hs0] at this
    exact this
  have HVC := Lib.hid (hvc.ext hx2); have HVA := Lib.hid hva
  have l1 : W.heap.size ≤ w.heap.size + 1 + 1 := by omega
  have l3 : w.heap.size + 1 + 1 + 1 + 1 ≤ Wc.heap.size := by omega
  have l4 : Wc.heap.size + 1 ≤ W2.heap.size := by omega
  have l5 : w.heap.size + 1 < W.heap.size := by omega
  clear hWb hmb hsb hxb hWc hvc hxc hW2 hx2 hva hs0 hsc hs2
  go_wp2
  refine wp_range (nodes_iter Wc.heap.size A g.length hA (by omega)) rfl nodes_enters rfl
    (fun k W' => (∀ j, j < k → A.testBit j = true → seenM g s A j (markN g s j) = false) ∧ SeenMapM W' (w.heap.size + 1 + 1) g s A k ∧ Ext W W' ∧ W2.heap.size ≤ W'.heap.size ∧
      W'.cell? ⟨w.heap.size + 1 + 1 + 1, 0, none⟩ = some (.map (some (w.heap.size + 1 + 1))) ∧ W'.cell? ⟨Wc.heap.size, 0, none⟩ = some (.int .i64 A))
    (fun cc W' => cc = .ret ∧ unlikeN g s A = false ∧ W'.cell? ⟨w.heap.size + 1, 0, none⟩ = some (.bool false) ∧ Ext w W')
    ?hI ?hIx ?hKi ?h0 ?hskip ?hround ?hdone ?hstop
  case hI =>
    rintro j W' W'' hB ⟨h1, ⟨f, h2, h2'⟩, h3, h4, h5, h6⟩
    exact ⟨h1, ⟨f, h2.book hB (by omega), h2'⟩, h3.book (by omega) hB, Nat.le_trans h4 hB.size, hB.cell h5, hB.cell h6⟩
  case hIx =>
    rintro cc W' W'' hB ⟨h1, h2, h3, h4⟩
    exact ⟨h1, h2, hB.cell h3, h4.book ((HX0.out.trans HX2.out).size) hB⟩
  case hKi =>
    rintro j W' ⟨_, _, _, _, _, h6⟩
    exact h6
  case h0 => exact ⟨fun j hj => absurd hj (Nat.not_lt_zero j), ⟨_, HMB.out, fun a => by simp [seenM]⟩, HX2.out, Nat.le_refl _, HVC.out.cell, HVA.out.cell⟩
  case hskip =>
    rintro j W' hj hp ⟨h1, ⟨f, h2, h2'⟩, h3⟩
    exact ⟨fun i hi hf => by
      by_cases h : i = j
      · subst h; rw [hp] at hf; cases hf
      · exact h1 i (by omega) hf, ⟨f, h2, fun a => by rw [seenM_skip hp]; exact h2' a⟩, h3⟩
  case hround =>
    rintro l j W' hj hp ⟨h1, ⟨f, h2, h2'⟩, h3, h4, h5, h6⟩ hsz
    have H1 := Lib.hid h1; have H2 := Lib.hid h2; have H2' := Lib.hid h2'; have H3 := Lib.hid h3; have H5 := Lib.hid h5; have H6 := Lib.hid h6; have HP1 := Lib.hid hp
    clear h1 h2 h2' h3 h5 h6 hp
    gi_wp2
    refine ⟨KeepsFrom.refl _ _, fun W'' hB => ?_⟩
    have hE : Hid (Ext W W'') := H3.out.book (by omega) hB
    have hM := Lib.hid (H2.out.book hB (by omega))
    have hc5 := Lib.hid (hB.cell H5.out); have hc6 := Lib.hid (hB.cell H6.out)
    have h4' : W2.heap.size ≤ W''.heap.size := Nat.le_trans h4 hB.size
    clear hB H2 H3 H5 H6 h4
    obtain ⟨m, hm⟩ : ∃ m, m = markN g s j := ⟨_, rfl⟩
    obtain ⟨b, o, rfl, -, -, hcm0⟩ := HV.out.atI hj
    have hcm := Lib.hid hcm0
    clear hcm0
    have k1 := fun u => ((clip_ext W'' u).cell (x := w.heap.size + 1 + 1 + 1) (o := 0) (by omega)).trans hc5.out
    have k2 := fun u => ((VM.out.ext hE.out).ext (clip_ext W'' u)).cell
    have k3 := fun u => hcm.out _ (hE.out.trans (clip_ext W'' u))
    rw [show getI (marksTo g s g.length) j = ((markN g s j : Nat) : Int) from marksTo_get _ _ _ _ hj, ← hm] at k3
    have hlk := fun u => (hM.out.ext (clip_ext W'' u)).lookup Try.underlying68 (show (zeroValue 4).run Try.prog (clip W'' u) = .ok (.bool false) (clip W'' u) from rfl) m
    rw [H2'.out m] at hlk
    have HM := Lib.hid hm
    clear hm
    cases hs : seenM g s A j m
    · rw [hs, if_neg (by decide)] at hlk
      have HS := Lib.hid hs; clear hs
      gi_wp2
      refine wpIn_quiet (ro := some l) (C := fun w' => ∃ u, w' = clip W'' u) (by kernel_rfl) (by kernel_rfl) (by kernel_rfl) ⟨_, (clip_of (Ext.refl W'').drew).symm⟩ ?_
      repeat (go_big_quiet_step (fail))
      refine wpQuiet_nil ?_
      rintro _ ⟨u, rfl⟩
      have hxu := clip_ext W'' u
      obtain ⟨Wq, hWq⟩ : ∃ V, V = clip W'' u := ⟨_, rfl⟩
      rw [← hWq] at hxu ⊢
      have XU := Lib.hid hxu
      have X3 := Lib.hid (hE.out.trans hxu)
      have M3 := Lib.hid (hM.out.ext hxu)
      have q1 := fun u => ((hxu.trans (clip_ext Wq u)).cell (x := w.heap.size + 1 + 1 + 1) (o := 0) (by omega)).trans hc5.out
      have q2 := fun u => (VM.out.ext (X3.out.trans (clip_ext Wq u))).cell
      have q3 := fun u => hcm.out _ (X3.out.trans (clip_ext Wq u))
      rw [show getI (marksTo g s g.length) j = ((markN g s j : Nat) : Int) from marksTo_get _ _ _ _ hj, ← HM.out] at q3
      have d5 := Lib.hid ((hxu.cell (x := w.heap.size + 1 + 1 + 1) (o := 0) (by omega)).trans hc5.out)
      have d6 := Lib.hid ((hxu.cell (x := Wc.heap.size) (o := 0) (by omega)).trans hc6.out)
      have l6 : W2.heap.size ≤ Wq.heap.size := Nat.le_trans h4' hxu.size
      clear k1 k2 k3 hlk hWq hxu
      gi_wp2
      refine wpIn_quiet_tail (ro := some l) (C := fun w' => ∃ u, w' = clip Wq u) 5 (by kernel_rfl) (by kernel_rfl) (by kernel_rfl) ⟨_, (clip_of (Ext.refl Wq).drew).symm⟩ ?_
      simp only [List.take_succ_cons, List.take_zero, List.drop_succ_cons, List.drop_zero]
      repeat (go_big_quiet_step (fail))
      refine wpQuiet_nil ?_
      rintro _ ⟨u', rfl⟩
      have xc := Lib.hid (clip_ext Wq u')
      obtain ⟨W4, hu, m4, hx4, hs4, ho4⟩ := (M3.out.ext xc.out).update Try.underlying68 m (.bool true)
      have M4 := Lib.hid m4; have HX4 := Lib.hid hx4; have HS4 := Lib.hid hs4; have HO4 := Lib.hid ho4
      clear m4 hx4 hs4 ho4 q1 q2 q3
      gi_wp2
      have hs4 := HS4.out
      have hsc := xc.out.size
      refine ⟨(KeepsFrom.of_ext XU.out).trans ((KeepsFrom.of_ext xc.out).trans ⟨by omega, fun k o hk ho _ => (HO4.out k (by omega)).trans ho⟩), fun i hi hf => ?_, ⟨_, M4.out, fun a => ?_⟩, HX4.out _ (X3.out.trans xc.out) (by omega), by omega, ?_, ?_⟩
      · by_cases h : i = j
        · subst h; rw [← HM.out]; exact HS.out
        · exact H1.out i (by omega) hf
      · unfold put
        rw [seenM_next HP1.out, ← HM.out]
        by_cases h : a = m
        · subst h; simp
        · rw [if_neg (by omega), H2'.out a, beq_eq_false_iff_ne.2 (fun e => h e.symm), Bool.or_false]
      · rw [← d5.out, ← xc.out.cell (x := w.heap.size + 1 + 1 + 1) (o := 0) (by omega)]; unfold World.cell?; rw [HO4.out (w.heap.size + 1 + 1 + 1) (by omega)]
      · rw [← d6.out, ← xc.out.cell (x := Wc.heap.size) (o := 0) (by omega)]; unfold World.cell?; rw [HO4.out Wc.heap.size (by omega)]
    · rw [hs, if_pos rfl] at hlk
      have HS := Lib.hid hs; clear hs
      gi_wp2
      refine wpIn_quiet (ro := some l) (C := fun w' => ∃ u, w' = clip W'' u) (by kernel_rfl) (by kernel_rfl) (by kernel_rfl) ⟨_, (clip_of (Ext.refl W'').drew).symm⟩ ?_
      repeat (go_big_quiet_step (fail))
      refine wpQuiet_nil ?_
      rintro _ ⟨u, rfl⟩
      have hxu := clip_ext W'' u
      obtain ⟨Wq, hWq⟩ : ∃ V, V = clip W'' u := ⟨_, rfl⟩
      rw [← hWq] at hxu ⊢
      have XU := Lib.hid hxu
      have X3 := Lib.hid (hE.out.trans hxu)
      clear k1 k2 k3 hlk hWq hxu
      obtain ⟨c0, f0, -⟩ := V0.out.ext X3.out
      gi_wp2
      exact ⟨(KeepsFrom.of_ext XU.out).trans (KeepsFrom.setCell' _ _ _ _), rfl, unlikeN_false hj HP1.out (by rw [← HM.out]; exact HS.out), ((V0.out.ext X3.out).set _).cell, (HX0.out.trans X3.out).setCell (by show w.heap.size ≤ w.heap.size + 1; omega) _⟩
  case hdone =>
    rintro D' W' hD ⟨h1, h2, h3, h4, h5⟩ hDD
    have H1 := Lib.hid h1; have X3 := Lib.hid h3; have HD := Lib.hid hDD; clear h1 h2 h3 h5 hDD
    obtain ⟨c0, f0, -⟩ := V0.out.ext X3.out
    go_wp2
    exact leave_bool rfl rfl ((V0.out.ext X3.out).set _).cell (((Marks.nil _ _).cons (n := W2.heap.size) (fun k hk => by obtain ⟨_, hk, _⟩ := hk; cases hk) hD (Nat.le_trans ((HX0.out.trans HX2.out).size) hD) HD.out).setCell _ _) ((HX0.out.trans X3.out).setCell (by show w.heap.size ≤ w.heap.size + 1; omega) _) (unlikeN_true H1.out).symm
  case hstop =>
    rintro D' cc W' hD ⟨rfl, h2, h3, h4⟩ hDD
    go_wp2
    exact leave_bool rfl rfl h3 ((Marks.nil _ _).cons (n := W2.heap.size) (fun k hk => by obtain ⟨_, hk, _⟩ := hk; cases hk) hD (Nat.le_trans ((HX0.out.trans HX2.out).size) hD) hDD) h4 h2.symm
end Go.Proofs.Ytpmammklklkheaa
