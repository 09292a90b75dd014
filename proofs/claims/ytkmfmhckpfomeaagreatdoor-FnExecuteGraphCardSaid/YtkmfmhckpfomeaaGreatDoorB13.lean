/- What the walks of this seat rest on, one part: plain facts, and contracts of the functions that they reach. Each states its own condition. -/
import Derived.Test.YtkmfmhckpfomeaaGreatDoorB12
import Derived.Test.YtkmfmhckpfomeaaGreatDoorB11
import Derived.Test.YtkmfmhckpfomeaaGreatDoorB2
set_option linter.all false
set_option linter.unusedSimpArgs false
set_option linter.unusedVariables false
/- Whether unlike nodes of a set have unlike marks: the program computes the plain function. No condition. -/
namespace Go.Proofs.YtkmfmhckpfomeaaGreatDoor
open Go.RowKit
open BigFrame
attribute [local go_sem] Oper.semAt_some

def seenM (g : List Int) (s A k a : Nat) : Bool := (List.range k).any fun j => A.testBit j && (markN g s j == a)
def unlikeN (g : List Int) (s A : Nat) : Bool := (List.range g.length).all fun k => !(A.testBit k && seenM g s A k (markN g s k))
theorem seenM_skip {g : List Int} {s A k : Nat} (h : A.testBit k = false) (a : Nat) : seenM g s A (k + 1) a = seenM g s A k a := by
  unfold seenM
  rw [List.range_succ, List.any_append]
  simp [h]
theorem seenM_next {g : List Int} {s A k : Nat} (h : A.testBit k = true) (a : Nat) : seenM g s A (k + 1) a = (seenM g s A k a || (markN g s k == a)) := by
  unfold seenM
  rw [List.range_succ, List.any_append]
  simp [h]
theorem unlikeN_false {g : List Int} {s A k : Nat} (hk : k < g.length) (h : A.testBit k = true) (hs : seenM g s A k (markN g s k) = true) : unlikeN g s A = false := by
  unfold unlikeN
  rw [List.all_eq_false]
  exact ⟨k, List.mem_range.2 hk, by rw [h, hs]; decide⟩
theorem unlikeN_true {g : List Int} {s A : Nat} (h : ∀ k, k < g.length → A.testBit k = true → seenM g s A k (markN g s k) = false) : unlikeN g s A = true := by
  unfold unlikeN
  rw [List.all_eq_true]
  intro k hk
  cases hf : A.testBit k
  · rfl
  · rw [h k (List.mem_range.1 hk) hf]; rfl
theorem unlikeN_apart {g : List Int} {s A : Nat} {al : Bool} (h : ∀ j, j < g.length → A.testBit j = (al || !s.testBit j)) : unlikeN g s A = apartN g s al := by
  rw [Bool.eq_iff_iff]
  unfold unlikeN apartN apartRow sameP seenM
  simp only [List.all_eq_true, List.mem_range, Bool.not_eq_true', Bool.and_eq_false_iff, List.any_eq_false, Bool.and_eq_true, beq_iff_eq, not_and, Bool.or_eq_false_iff, decide_eq_false_iff_not, Bool.not_eq_false']
  constructor
  · intro H i hi k hk
    have hk' : k < g.length := by omega
    cases al
    · have h1 := h i hi
      have h2 := h k hk'
      simp only [Bool.false_or] at h1 h2
      cases hsi : s.testBit i
      · cases hsk : s.testBit k
        · rw [hsi] at h1
          rw [hsk] at h2
          rcases H i hi with h3 | h3
          · rw [h3] at h1; cases h1
          · exact .inr fun e => h3 k hk h2 e.symm
        · exact .inl ⟨rfl, .inr rfl⟩
      · exact .inl ⟨rfl, .inl rfl⟩
    · rcases H i hi with h3 | h3
      · rw [h i hi] at h3; cases h3
      · exact .inr fun e => h3 k hk (by rw [h k hk']; rfl) e.symm
  · intro H i hi
    cases hA : A.testBit i
    · exact .inl rfl
    · refine .inr fun k hk hAk e => ?_
      have hk' : k < g.length := by omega
      rcases H i hi k hk with ⟨h1, h2⟩ | h1
      · rw [h i hi, h1] at hA
        rw [h k hk', h1] at hAk
        rcases h2 with h2 | h2
        · rw [h2] at hA; cases hA
        · rw [h2] at hAk; cases hAk
      · exact h1 e.symm
def SeenMapM (w : World) (b : Nat) (g : List Int) (s A k : Nat) : Prop := ∃ f, IntMap w b f ∧ ∀ a : Nat, f (a : Int) = if seenM g s A k a then some (.bool true) else none

set_option maxRecDepth 100000 in
set_option maxHeartbeats 2000000 in
theorem unlike_c (v : Value) (g : List Int) (s A : Nat) (w : World) (hv : Rd w v (marksTo g s g.length)) (hg : IsGraph g) (hA : A < 2 ^ g.length) :
    Calls Tryz.prog 69 #[v, .int .i64 A] w fun e w' => e = .returned (.bool (unlikeN g s A)) ∧ Ext w w' := by
  obtain ⟨a, c, rfl⟩ := hv.form
  rw [marksTo_length] at hv ⊢
  obtain ⟨W, hW⟩ : ∃ W, W = (w.alloc (.cells #[.slice a g.length c] 29)).alloc (.cells #[.bool false] 4) := ⟨_, rfl⟩
  have hx : Ext w W := by rw [hW]; exact ((Ext.refl _).alloc _).alloc _
  have vm : Var W w.heap.size (.slice a g.length c) := by rw [hW]; exact (Var.new _ _ _).ext ((Ext.refl _).alloc _)
  have v0 : Var W (w.heap.size + 1) (.bool false) := by
    rw [hW]
    have := Var.new (w.alloc (.cells #[.slice a g.length c] 29)) (.bool false) 4
    rw [World.size_alloc] at this
    exact this
  have hs0 : W.heap.size = w.heap.size + 2 := by rw [hW]; simp
  have HV := Lib.hid (hv.ext hx); clear hv
  have HG := Lib.hid hg
  have hl := hg.le
  have HW := Lib.hid hW; have HX0 := Lib.hid hx; have V0 := Lib.hid v0; have VM := Lib.hid vm
  have hmk : ∀ w : World, (Instr.makeMap 123 none).run Tryz.prog w = .ok (.map (some w.heap.size)) (w.alloc (.map #[] 0)) := fun w => rfl
  clear hW hx v0 vm hg
  refine calls_marks Tryz.func69 rfl ?_
  simp only [Tryz.ntmps69, List.size_toArray, List.length_cons, List.length_nil, Nat.reduceAdd, Nat.reduceSub, Array.replicate_succ, Array.replicate_zero, List.push_toArray, List.append_toArray, List.nil_append, List.cons_append]
  go_wp2_with fail
  rw [← HW.out]
  clear hmk
  obtain ⟨Wb, hWb⟩ : ∃ V, V = W.alloc (.map #[] 0) := ⟨_, rfl⟩
  rw [← hWb]
  have hmb : IntMap Wb W.heap.size (fun _ => none) := by rw [hWb]; exact IntMap.empty W
  have hsb : Wb.heap.size = W.heap.size + 1 := by rw [hWb, World.size_alloc]
  have hxb : Ext W Wb := by rw [hWb]; exact (Ext.refl _).alloc _
  obtain ⟨Wc, hWc⟩ : ∃ V, V = Wb.alloc (.cells #[.map (some (w.heap.size + 1 + 1))] 123) := ⟨_, rfl⟩
  rw [← hWc]
  have hvc : Var Wc (w.heap.size + 1 + 1 + 1) (.map (some (w.heap.size + 1 + 1))) := by
    rw [hWc]
    have := Var.new Wb (.map (some (w.heap.size + 1 + 1))) 123
    rw [hsb, hs0] at this
    exact this
  have hsc : Wc.heap.size = w.heap.size + 4 := by rw [hWc, World.size_alloc, hsb, hs0]
  have hxc : Ext Wb Wc := by rw [hWc]; exact (Ext.refl _).alloc _
  refine (nodes_c _ _).mono ?_
  rintro e w' ⟨rfl, rfl⟩
  obtain ⟨W2, hW2⟩ : ∃ V, V = Wc.alloc (.cells #[.int .i64 (A : Int)] 3) := ⟨_, rfl⟩
  rw [← hW2]
  have hx2 : Ext Wc W2 := by rw [hW2]; exact (Ext.refl _).alloc _
  have hva : Var W2 Wc.heap.size (.int .i64 A) := by rw [hW2]; exact Var.new _ _ _
  have hs2 : W2.heap.size = Wc.heap.size + 1 := by rw [hW2]; simp
  have HX2 := Lib.hid (hxb.trans (hxc.trans hx2))
  have HMB : Hid (IntMap W2 (w.heap.size + 1 + 1) (fun _ => none)) := by
    have := hmb.ext (hxc.trans hx2)
    rw [hs0] at this
    exact this
  have HVC := Lib.hid (hvc.ext hx2); have HVA := Lib.hid hva
  have l1 : W.heap.size ≤ w.heap.size + 1 + 1 := by omega
  have l3 : w.heap.size + 1 + 1 + 1 + 1 ≤ Wc.heap.size := by omega
  have l4 : Wc.heap.size + 1 ≤ W2.heap.size := by omega
  have l5 : w.heap.size + 1 < W.heap.size := by omega
  clear hWb hmb hsb hxb hWc hvc hxc hW2 hx2 hva hs0 hsc hs2
  go_wp2
  refine wp_range (nodes_iter Wc.heap.size A g.length hA (by omega)) rfl nodes_enters rfl
    (fun k W' => (∀ j, j < k → A.testBit j = true → seenM g s A j (markN g s j) = false) ∧ SeenMapM W' (w.heap.size + 1 + 1) g s A k ∧ Ext W W' ∧ W2.heap.size ≤ W'.heap.size ∧
      W'.cell? ⟨w.heap.size + 1 + 1 + 1, 0, none⟩ = some (.map (some (w.heap.size + 1 + 1))) ∧ W'.cell? ⟨Wc.heap.size, 0, none⟩ = some (.int .i64 A))
    (fun cc W' => cc = .ret ∧ unlikeN g s A = false ∧ W'.cell? ⟨w.heap.size + 1, 0, none⟩ = some (.bool false) ∧ Ext w W')
    ?hI ?hIx ?hKi ?h0 ?hskip ?hround ?hdone ?hstop
  case hI =>
    rintro j W' W'' hB ⟨h1, ⟨f, h2, h2'⟩, h3, h4, h5, h6⟩
    exact ⟨h1, ⟨f, h2.book hB (by omega), h2'⟩, h3.book (by omega) hB, Nat.le_trans h4 hB.size, hB.cell h5, hB.cell h6⟩
  case hIx =>
    rintro cc W' W'' hB ⟨h1, h2, h3, h4⟩
    exact ⟨h1, h2, hB.cell h3, h4.book ((HX0.out.trans HX2.out).size) hB⟩
  case hKi =>
    rintro j W' ⟨_, _, _, _, _, h6⟩
    exact h6
  case h0 => exact ⟨fun j hj => absurd hj (Nat.not_lt_zero j), ⟨_, HMB.out, fun a => by simp [seenM]⟩, HX2.out, Nat.le_refl _, HVC.out.cell, HVA.out.cell⟩
  case hskip =>
    rintro j W' hj hp ⟨h1, ⟨f, h2, h2'⟩, h3⟩
    exact ⟨fun i hi hf => by
      by_cases h : i = j
      · subst h; rw [hp] at hf; cases hf
      · exact h1 i (by omega) hf, ⟨f, h2, fun a => by rw [seenM_skip hp]; exact h2' a⟩, h3⟩
  case hround =>
    rintro l j W' hj hp ⟨h1, ⟨f, h2, h2'⟩, h3, h4, h5, h6⟩ hsz
    have H1 := Lib.hid h1; have H2 := Lib.hid h2; have H2' := Lib.hid h2'; have H3 := Lib.hid h3; have H5 := Lib.hid h5; have H6 := Lib.hid h6; have HP1 := Lib.hid hp
    clear h1 h2 h2' h3 h5 h6 hp
    gi_wp2
    refine ⟨KeepsFrom.refl _ _, fun W'' hB => ?_⟩
    have hE : Hid (Ext W W'') := H3.out.book (by omega) hB
    have hM := Lib.hid (H2.out.book hB (by omega))
    have hc5 := Lib.hid (hB.cell H5.out); have hc6 := Lib.hid (hB.cell H6.out)
    have h4' : W2.heap.size ≤ W''.heap.size := Nat.le_trans h4 hB.size
    clear hB H2 H3 H5 H6 h4
    obtain ⟨m, hm⟩ : ∃ m, m = markN g s j := ⟨_, rfl⟩
    obtain ⟨b, o, rfl, -, -, hcm0⟩ := HV.out.atI hj
    have hcm := Lib.hid hcm0
    clear hcm0
    have k1 := fun u => ((clip_ext W'' u).cell (x := w.heap.size + 1 + 1 + 1) (o := 0) (by omega)).trans hc5.out
    have k2 := fun u => ((VM.out.ext hE.out).ext (clip_ext W'' u)).cell
    have k3 := fun u => hcm.out _ (hE.out.trans (clip_ext W'' u))
    rw [show getI (marksTo g s g.length) j = ((markN g s j : Nat) : Int) from marksTo_get _ _ _ _ hj, ← hm] at k3
    have hlk := fun u => (hM.out.ext (clip_ext W'' u)).lookup Tryz.underlying123 (show (zeroValue 4).run Tryz.prog (clip W'' u) = .ok (.bool false) (clip W'' u) from rfl) m
    rw [H2'.out m] at hlk
    have HM := Lib.hid hm
    clear hm
    cases hs : seenM g s A j m
    · rw [hs, if_neg (by decide)] at hlk
      have HS := Lib.hid hs; clear hs
      gi_wp2
      refine wpIn_quiet (ro := some l) (C := fun w' => ∃ u, w' = clip W'' u) (by kernel_rfl) (by kernel_rfl) (by kernel_rfl) ⟨_, (clip_of (Ext.refl W'').drew).symm⟩ ?_
      repeat (go_big_quiet_step (fail))
      refine wpQuiet_nil ?_
      rintro _ ⟨u, rfl⟩
      have hxu := clip_ext W'' u
      obtain ⟨Wq, hWq⟩ : ∃ V, V = clip W'' u := ⟨_, rfl⟩
      rw [← hWq] at hxu ⊢
      have XU := Lib.hid hxu
      have X3 := Lib.hid (hE.out.trans hxu)
      have M3 := Lib.hid (hM.out.ext hxu)
      have q1 := fun u => ((hxu.trans (clip_ext Wq u)).cell (x := w.heap.size + 1 + 1 + 1) (o := 0) (by omega)).trans hc5.out
      have q2 := fun u => (VM.out.ext (X3.out.trans (clip_ext Wq u))).cell
      have q3 := fun u => hcm.out _ (X3.out.trans (clip_ext Wq u))
      rw [show getI (marksTo g s g.length) j = ((markN g s j : Nat) : Int) from marksTo_get _ _ _ _ hj, ← HM.out] at q3
      have d5 := Lib.hid ((hxu.cell (x := w.heap.size + 1 + 1 + 1) (o := 0) (by omega)).trans hc5.out)
      have d6 := Lib.hid ((hxu.cell (x := Wc.heap.size) (o := 0) (by omega)).trans hc6.out)
      have l6 : W2.heap.size ≤ Wq.heap.size := Nat.le_trans h4' hxu.size
      clear k1 k2 k3 hlk hWq hxu
      gi_wp2
      refine wpIn_quiet_tail (ro := some l) (C := fun w' => ∃ u, w' = clip Wq u) 5 (by kernel_rfl) (by kernel_rfl) (by kernel_rfl) ⟨_, (clip_of (Ext.refl Wq).drew).symm⟩ ?_
      simp only [List.take_succ_cons, List.take_zero, List.drop_succ_cons, List.drop_zero]
      repeat (go_big_quiet_step (fail))
      refine wpQuiet_nil ?_
      rintro _ ⟨u', rfl⟩
      have xc := Lib.hid (clip_ext Wq u')
      obtain ⟨W4, hu, m4, hx4, hs4, ho4⟩ := (M3.out.ext xc.out).update Tryz.underlying123 m (.bool true)
      have M4 := Lib.hid m4; have HX4 := Lib.hid hx4; have HS4 := Lib.hid hs4; have HO4 := Lib.hid ho4
      clear m4 hx4 hs4 ho4 q1 q2 q3
      gi_wp2
      have hs4 := HS4.out
      have hsc := xc.out.size
      refine ⟨(KeepsFrom.of_ext XU.out).trans ((KeepsFrom.of_ext xc.out).trans ⟨by omega, fun k o hk ho _ => (HO4.out k (by omega)).trans ho⟩), fun i hi hf => ?_, ⟨_, M4.out, fun a => ?_⟩, HX4.out _ (X3.out.trans xc.out) (by omega), by omega, ?_, ?_⟩
      · by_cases h : i = j
        · subst h; rw [← HM.out]; exact HS.out
        · exact H1.out i (by omega) hf
      · unfold put
        rw [seenM_next HP1.out, ← HM.out]
        by_cases h : a = m
        · subst h; simp
        · rw [if_neg (by omega), H2'.out a, beq_eq_false_iff_ne.2 (fun e => h e.symm), Bool.or_false]
      · rw [← d5.out, ← xc.out.cell (x := w.heap.size + 1 + 1 + 1) (o := 0) (by omega)]; unfold World.cell?; rw [HO4.out (w.heap.size + 1 + 1 + 1) (by omega)]
      · rw [← d6.out, ← xc.out.cell (x := Wc.heap.size) (o := 0) (by omega)]; unfold World.cell?; rw [HO4.out Wc.heap.size (by omega)]
    · rw [hs, if_pos rfl] at hlk
      have HS := Lib.hid hs; clear hs
      gi_wp2
      refine wpIn_quiet (ro := some l) (C := fun w' => ∃ u, w' = clip W'' u) (by kernel_rfl) (by kernel_rfl) (by kernel_rfl) ⟨_, (clip_of (Ext.refl W'').drew).symm⟩ ?_
      repeat (go_big_quiet_step (fail))
      refine wpQuiet_nil ?_
      rintro _ ⟨u, rfl⟩
      have hxu := clip_ext W'' u
      obtain ⟨Wq, hWq⟩ : ∃ V, V = clip W'' u := ⟨_, rfl⟩
      rw [← hWq] at hxu ⊢
      have XU := Lib.hid hxu
      have X3 := Lib.hid (hE.out.trans hxu)
      clear k1 k2 k3 hlk hWq hxu
      obtain ⟨c0, f0, -⟩ := V0.out.ext X3.out
      gi_wp2
      exact ⟨(KeepsFrom.of_ext XU.out).trans (KeepsFrom.setCell' _ _ _ _), rfl, unlikeN_false hj HP1.out (by rw [← HM.out]; exact HS.out), ((V0.out.ext X3.out).set _).cell, (HX0.out.trans X3.out).setCell (by show w.heap.size ≤ w.heap.size + 1; omega) _⟩
  case hdone =>
    rintro D' W' hD ⟨h1, h2, h3, h4, h5⟩ hDD
    have H1 := Lib.hid h1; have X3 := Lib.hid h3; have HD := Lib.hid hDD; clear h1 h2 h3 h5 hDD
    obtain ⟨c0, f0, -⟩ := V0.out.ext X3.out
    go_wp2
    exact leave_bool rfl rfl ((V0.out.ext X3.out).set _).cell (((Marks.nil _ _).cons (n := W2.heap.size) (fun k hk => by obtain ⟨_, hk, _⟩ := hk; cases hk) hD (Nat.le_trans ((HX0.out.trans HX2.out).size) hD) HD.out).setCell _ _) ((HX0.out.trans X3.out).setCell (by show w.heap.size ≤ w.heap.size + 1; omega) _) (unlikeN_true H1.out).symm
  case hstop =>
    rintro D' cc W' hD ⟨rfl, h2, h3, h4⟩ hDD
    go_wp2
    exact leave_bool rfl rfl h3 ((Marks.nil _ _).cons (n := W2.heap.size) (fun k hk => by obtain ⟨_, hk, _⟩ := hk; cases hk) hD (Nat.le_trans ((HX0.out.trans HX2.out).size) hD) hDD) h4 h2.symm
end Go.Proofs.YtkmfmhckpfomeaaGreatDoor

/- Resolving codes: the program computes the plain function. No condition. -/
namespace Go.Proofs.YtkmfmhckpfomeaaGreatDoor
open Go.RowKit
open BigFrame
attribute [local go_sem] Oper.semAt_some

theorem leave_tmp {fn : Func} {p : Tmp} {v v0 : Value} {w W : World} {tmps : Array Value} {ds : List Deferred} (hr : fn.results = #[.tmp p])
    (hp : tmps.getD p undef = v) (hm : Marks w.heap.size W ds) (hx : Ext w W) (hv : v = v0) :
    LeavesInM Fence.wide 0 Tryz.prog fn tmps (fun e w' => e = .returned v0 ∧ Ext w w') ds .returning W := by
  subst hv
  refine leaves_marks (B := w.heap.size) v _ _ hm fun W' hW' => ⟨?_, rfl, hx.book (Nat.le_refl _) hW'⟩
  rw [← hp]
  simp [results, hr]
theorem IsBook.tab {w : World} {b : Nat} {g : List Int} {v vb vf : Value} {vs : List Value} (h : IsBook w b g v vb vf vs) : IsTab w g vf vs :=
  ⟨h.hf, h.len, fun i hi => (h.row i hi).elim fun _ h => h.rd⟩
theorem farP_symm {g : List Int} (hg : IsGraph g) (s i k c : Nat) : farP g s i k c = (s.testBit c && decide (dd g c i ≠ dd g c k)) := by
  unfold farP
  rw [dd_symm hg i c, dd_symm hg k c]
theorem Var.step {w W V : World} {b : Nat} {v : Value} (h : Var w b v) (hx : Ext w W) (hV : Ext W V) : Var V b v := h.ext (hx.trans hV)

set_option maxRecDepth 100000 in
set_option maxHeartbeats 4000000 in
theorem resolves_c (b : Nat) (v vb vf : Value) (vs : List Value) (g : List Int) (s : Nat) (w : World) (hb : IsBook w b g v vb vf vs) (hg : IsGraph g) (hs : s < 2 ^ g.length) (hv : ∃ a c, v = .slice a g.length c) :
    Calls Tryz.prog 66 #[.pointer (some ⟨b, 0, none⟩), .int .i64 s] w fun e w' => e = .returned (.bool (resN g s)) ∧ Ext w w' := by
  obtain ⟨a, c, rfl⟩ := hv
  obtain ⟨bt, ct, rfl, hbt, hget⟩ := hb.tab.get hg
  obtain ⟨W, hW⟩ : ∃ W, W = w.alloc (.cells #[.pointer (some ⟨b, 0, none⟩)] 66) := ⟨_, rfl⟩
  have hx0 : Ext w W := by rw [hW]; exact (Ext.refl _).alloc _
  have v0 : Var W w.heap.size (.pointer (some ⟨b, 0, none⟩)) := by rw [hW]; exact Var.new _ _ _
  have HB := Lib.hid (hb.ext hx0); have HT := Lib.hid fun i (hi : i < g.length) => hget i hi
  have c0 := v0.cell
  have c1 := HB.out.graph
  rw [hW] at c0 c1
  have HX0 := Lib.hid hx0; have V0 := Lib.hid v0; have HW := Lib.hid hW
  have HG := Lib.hid hg
  have hl := hg.le
  have hs4 : s ≤ 4095 := by have := pow_le_12 hl; omega
  have HS := Lib.hid hs
  clear hb hget hx0 v0 hW hg hs
  refine calls_marks Tryz.func66 rfl ?_
  simp only [Tryz.ntmps66, List.size_toArray, List.length_cons, List.length_nil, Nat.reduceAdd, Nat.reduceSub, Array.replicate_succ, Array.replicate_zero, List.push_toArray, List.append_toArray, List.nil_append, List.cons_append]
  go_wp2
  rw [← HW.out]
  clear c0 c1
  refine wp_loop_marks [5, 6, 7, 8, 14, 15, 16, 17, 18, 19, 20, 21, 22, 23, 24, 25, 26, 27, 28, 29, 30, 31, 32, 33, 34, 35, 36, 37, 38, 39, 40, 41, 42, 43, 44, 45, 46, 47, 48, 49, 50, 51]
    (fun u ds wr => ∃ k : Nat, k ≤ g.length ∧ u 14 = .int .i64 k ∧ (∀ j, j < k → resRow g s j = true) ∧ Ext W wr ∧ Marks w.heap.size wr ds)
    (fun u _ => g.length - (intOf (u 14)).toNat) ⟨0, Nat.zero_le _, rfl, fun j hj => absurd hj (Nat.not_lt_zero j), Ext.refl _, Marks.nil _ _⟩ ?_
  rintro u ds w2 ⟨i, hi, hu, hj, hx, hm⟩ K HK
  simp only [fillFrom, List.contains_cons, List.contains_nil, Nat.reduceBEq, Nat.reduceAdd, Bool.or_false, Bool.or_true, if_true, if_false, Bool.false_eq_true, hu] at ⊢
  have HU := Lib.hid hu; have HM2 := Lib.hid hm; have HI := Lib.hid hj; have HX := Lib.hid hx
  clear hu hm hj hx
  by_cases hlt : i < g.length
  · obtain ⟨V, hV⟩ : ∃ V, V = w2.alloc (.cells #[.int .i64 (i : Int)] 3) := ⟨_, rfl⟩
    have hxv : Ext w2 V := by rw [hV]; exact (Ext.refl _).alloc _
    have hvv : Var V w2.heap.size (.int .i64 i) := by rw [hV]; exact Var.new _ _ _
    have k1 := hvv.cell
    rw [hV] at k1
    have HXV := Lib.hid (HX.out.trans hxv); have HVV := Lib.hid hvv; have HVe := Lib.hid hV
    have HMV := Lib.hid (HM2.out.ext hxv)
    clear hxv hvv hV HX
    go_wp2
    rw [← HVe.out]
    clear k1
    refine wp_loop_marks [6, 7, 8, 18, 19, 20, 21, 22, 23, 24, 25, 26, 27, 28, 29, 30, 31, 32, 33, 34, 35, 36, 37, 38, 39, 40, 41, 42, 43, 44, 45, 46, 47, 48, 49, 50]
      (fun u ds wr => ∃ k : Nat, k ≤ i ∧ u 18 = .int .i64 k ∧ (∀ j, j < k → resP g s i j = true) ∧ Ext V wr ∧ Marks w.heap.size wr ds)
      (fun u _ => i - (intOf (u 18)).toNat) ⟨0, Nat.zero_le _, rfl, fun j hj => absurd hj (Nat.not_lt_zero j), Ext.refl _, HMV.out⟩ ?_
    rintro u2 ds2 w3 ⟨k, hk, hu2, hj, hx, hm⟩ K2 HK2
    simp only [fillFrom, List.contains_cons, List.contains_nil, Nat.reduceBEq, Nat.reduceAdd, Bool.or_false, Bool.or_true, if_true, if_false, Bool.false_eq_true, hu2] at ⊢
    have HU2 := Lib.hid hu2; have HM3 := Lib.hid hm; have HJ := Lib.hid hj; have HX3 := Lib.hid hx
    clear hu2 hm hj hx HMV
    by_cases hlk : k < i
    · obtain ⟨V2, hV2⟩ : ∃ V, V = (w3.alloc (.cells #[.int .i64 (k : Int)] 3)).alloc (.cells #[.bool false] 4) := ⟨_, rfl⟩
      have hx2 : Ext w3 V2 := by rw [hV2]; exact ((Ext.refl _).alloc _).alloc _
      have hvk : Var V2 w3.heap.size (.int .i64 k) := by rw [hV2]; exact (Var.new _ _ _).ext ((Ext.refl _).alloc _)
      have hvf : Var V2 (w3.heap.size + 1) (.bool false) := by
        rw [hV2]
        have := Var.new (w3.alloc (.cells #[.int .i64 (k : Int)] 3)) (.bool false) 4
        rw [World.size_alloc] at this
        exact this
      have HV2 := Lib.hid hV2; have HX2 := Lib.hid hx2; have HVK := Lib.hid hvk; have HVF := Lib.hid hvf
      clear hV2 hx2 hvk hvf
      go_wp2_with fail
      rw [← HV2.out]
      refine (nodes_c _ _).mono ?_
      rintro e w' ⟨rfl, rfl⟩
      obtain ⟨W4, hW4⟩ : ∃ V, V = V2.alloc (.cells #[.int .i64 (s : Int)] 3) := ⟨_, rfl⟩
      rw [← hW4]
      have hx4 : Ext V2 W4 := by rw [hW4]; exact (Ext.refl _).alloc _
      have hvs : Var W4 V2.heap.size (.int .i64 s) := by rw [hW4]; exact Var.new _ _ _
      have HVS := Lib.hid hvs; have HX4 := Lib.hid (HX2.out.trans hx4); have HVK4 := Lib.hid (HVK.out.ext hx4); have HVF4 := Lib.hid (HVF.out.ext hx4)
      have HM4 := Lib.hid (HM3.out.ext (HX2.out.trans hx4))
      have l1 := HVV.out.lt
      have l2 : V.heap.size ≤ w3.heap.size := HX3.out.size
      have l3 : w3.heap.size + 1 < V2.heap.size := HVF.out.lt
      have l4 : V2.heap.size < W4.heap.size := hvs.lt
      clear hW4 hx4 hvs HVK HVF
      go_wp2
      refine wp_range (nodes_iter V2.heap.size s g.length HS.out (by omega)) rfl nodes_enters rfl
        (fun y W' => Var W' (w3.heap.size + 1) (.bool ((List.range y).any (farP g s i k))) ∧ Var W' w3.heap.size (.int .i64 k) ∧ Var W' V2.heap.size (.int .i64 s) ∧ Ext w3 W' ∧ Marks w.heap.size W' ds2 ∧ W4.heap.size ≤ W'.heap.size)
        (fun _ _ => False)
        ?hI ?hIx ?hKi ?h0 ?hskip ?hround ?hdone ?hstop
      case hI =>
        rintro j W' W'' hB ⟨h1, h2, h3, h4, h5, h6⟩
        exact ⟨h1.book hB (by omega), h2.book hB (by omega), h3.book hB (by omega), h4.book (by omega) hB, h5.book hB (fun k hk => by have := HM3.out.lt k hk; omega), Nat.le_trans h6 hB.size⟩
      case hIx => exact fun _ _ _ _ h => h
      case hKi =>
        rintro j W' ⟨_, _, h3, _⟩
        exact h3.cell
      case h0 => exact ⟨HVF4.out, HVK4.out, HVS.out, HX4.out, HM4.out, Nat.le_refl _⟩
      case hskip =>
        rintro j W' hj hp ⟨h1, h2⟩
        refine ⟨?_, h2⟩
        have : farP g s i k j = false := by unfold farP; rw [hp]; rfl
        rw [any_succ, this, Bool.or_false]
        exact h1
      case hround =>
        rintro l j W' hj hp ⟨h1, h2, h3, h4, h5, h6⟩ hsz
        gi_wp2
        refine ⟨KeepsFrom.refl _ _, fun W'' hB => ?_⟩
        have H1 : Hid (Var W'' (w3.heap.size + 1) (.bool ((List.range j).any (farP g s i k)))) := h1.book hB (by omega)
        have H2 : Hid (Var W'' w3.heap.size (.int .i64 k)) := h2.book hB (by omega)
        have H3 : Hid (Var W'' V2.heap.size (.int .i64 s)) := h3.book hB (by omega)
        have H4 : Hid (Ext w3 W'') := h4.book (by omega) hB
        have H5 : Hid (Marks w.heap.size W'' ds2) := h5.book hB (fun k hk => by have := HM3.out.lt k hk; omega)
        have l9 : W4.heap.size ≤ W''.heap.size := Nat.le_trans h6 hB.size
        have HFP : Hid (farP g s i k j = decide (dd g j i ≠ dd g j k)) := by unfold Hid; rw [farP_symm HG.out, hp, Bool.true_and]
        have HEW : Hid (Ext W W'') := HXV.out.trans (HX3.out.trans H4.out)
        clear h1 h2 h3 h4 h5 h6 hB hp hsz
        obtain ⟨r, o, cr, hr1, hr2⟩ := HT.out j hj
        have m1 := fun u => (H1.out.ext (clip_ext W'' u)).cell
        have m2 := fun u => (V0.out.ext (HEW.out.trans (clip_ext W'' u))).cell
        have m3 := fun u => (HB.out.ext (HEW.out.trans (clip_ext W'' u))).far
        have m4 := fun u => hr1 _ (HX0.out.trans (HEW.out.trans (clip_ext W'' u)))
        have m5 := fun u => (HVV.out.ext (HX3.out.trans (H4.out.trans (clip_ext W'' u)))).cell
        have m6 := fun u => (H2.out.ext (clip_ext W'' u)).cell
        have m7 := fun u => hr2 i hlt _ (HX0.out.trans (HEW.out.trans (clip_ext W'' u)))
        have m8 := fun u => hr2 k (by omega) _ (HX0.out.trans (HEW.out.trans (clip_ext W'' u)))
        have hd1 := dd_le g j i
        have hd2 := dd_le g j k
        obtain ⟨di, hdi⟩ : ∃ d, d = dd g j i := ⟨_, rfl⟩
        obtain ⟨dk, hdk⟩ : ∃ d, d = dd g j k := ⟨_, rfl⟩
        rw [← hdi] at m7 hd1 HFP
        rw [← hdk] at m8 hd2 HFP
        have fin : Hid (∀ (u : World) (nw : Bool), nw = ((List.range j).any (farP g s i k) || farP g s i k j) → KeepsFrom W4.heap.size W'' ((clip W'' u).setCell ⟨w3.heap.size + 1, 0, none⟩ (.bool nw)) ∧ Var ((clip W'' u).setCell ⟨w3.heap.size + 1, 0, none⟩ (.bool nw)) (w3.heap.size + 1) (.bool ((List.range (j + 1)).any (farP g s i k))) ∧ Var ((clip W'' u).setCell ⟨w3.heap.size + 1, 0, none⟩ (.bool nw)) w3.heap.size (.int .i64 k) ∧ Var ((clip W'' u).setCell ⟨w3.heap.size + 1, 0, none⟩ (.bool nw)) V2.heap.size (.int .i64 s) ∧ Ext w3 ((clip W'' u).setCell ⟨w3.heap.size + 1, 0, none⟩ (.bool nw)) ∧ Marks w.heap.size ((clip W'' u).setCell ⟨w3.heap.size + 1, 0, none⟩ (.bool nw)) ds2 ∧ W4.heap.size ≤ ((clip W'' u).setCell ⟨w3.heap.size + 1, 0, none⟩ (.bool nw)).heap.size) := by
          intro u nw hnw
          have xc := clip_ext W'' u
          rw [any_succ, ← hnw]
          exact ⟨(KeepsFrom.of_ext xc).trans (KeepsFrom.setCell' _ _ _ _), (H1.out.ext xc).set _, (H2.out.ext xc).other (by omega) _, (H3.out.ext xc).other (by omega) _, (H4.out.trans xc).setCell (by show w3.heap.size ≤ w3.heap.size + 1; omega) _, (H5.out.ext xc).setCell _ _, by have := xc.size; simp; omega⟩
        have mf := fun u => (H1.out.ext (clip_ext W'' u)).frozen
        clear hr1 hr2 hdi hdk
        cases hany : (List.range j).any (farP g s i k)
        · rw [hany] at m1 fin
          clear hany
          by_cases he : di = dk
          · have he' : ((di : Int) != (dk : Int)) = false := by simp [he]
            have HF0 : Hid (farP g s i k j = false) := by unfold Hid; rw [HFP.out]; simp [he]
            clear he
            gi_wp2
            refine wpIn_quiet_tail (ro := some l) (C := fun w' => ∃ u, w' = clip W'' u) 24 (by kernel_rfl) (by kernel_rfl) (by kernel_rfl) ⟨_, (clip_of (Ext.refl W'').drew).symm⟩ ?_
            simp only [List.take_succ_cons, List.take_zero, List.drop_succ_cons, List.drop_zero]
            repeat (go_big_quiet_step (fail))
            refine wpQuiet_nil ?_
            rintro _ ⟨u, rfl⟩
            gi_wp2
            exact fin.out u _ (by rw [HF0.out]; rfl)
          · have he' : ((di : Int) != (dk : Int)) = true := by simp; omega
            have HF0 : Hid (farP g s i k j = true) := by unfold Hid; rw [HFP.out]; simp [he]
            clear he
            gi_wp2
            refine wpIn_quiet_tail (ro := some l) (C := fun w' => ∃ u, w' = clip W'' u) 24 (by kernel_rfl) (by kernel_rfl) (by kernel_rfl) ⟨_, (clip_of (Ext.refl W'').drew).symm⟩ ?_
            simp only [List.take_succ_cons, List.take_zero, List.drop_succ_cons, List.drop_zero]
            repeat (go_big_quiet_step (fail))
            refine wpQuiet_nil ?_
            rintro _ ⟨u, rfl⟩
            gi_wp2
            exact fin.out u _ (by rw [HF0.out]; rfl)
        · rw [hany] at m1 fin
          clear hany
          gi_wp2
          refine wpIn_quiet_tail (ro := some l) (C := fun w' => ∃ u, w' = clip W'' u) 24 (by kernel_rfl) (by kernel_rfl) (by kernel_rfl) ⟨_, (clip_of (Ext.refl W'').drew).symm⟩ ?_
          simp only [List.take_succ_cons, List.take_zero, List.drop_succ_cons, List.drop_zero]
          repeat (go_big_quiet_step (fail))
          refine wpQuiet_nil ?_
          rintro _ ⟨u, rfl⟩
          gi_wp2
          exact fin.out u _ rfl
      case hdone =>
        rintro D' W' hD ⟨h1, h2, h3, h4, h5, h6⟩ hDD
        have H4 := Lib.hid h4; have H5 := Lib.hid h5; have HDD := Lib.hid hDD
        have HMD := Lib.hid (h5.cons (n := W4.heap.size) (fun k hk => by have := HM3.out.lt k hk; omega) hD (Nat.le_trans ((HX0.out.trans (HXV.out.trans (HX3.out.trans HX4.out))).size) hD) hDD)
        have m1 := h1.cell
        clear h1 h2 h3 h4 h5 h6 hDD
        cases hr : resP g s i k
        · rw [show (List.range g.length).any (farP g s i k) = false from hr] at m1
          have HF : Hid (resN g s = false) := by
            unfold Hid resN
            refine bears_false hlt ?_
            unfold resRow
            exact bears_false hlk hr
          clear hr
          go_wp2
          exact leave_tmp rfl rfl HMD.out (HX0.out.trans (HXV.out.trans (HX3.out.trans H4.out))) (by rw [HF.out]; rfl)
        · rw [show (List.range g.length).any (farP g s i k) = true from hr] at m1
          have HR := Lib.hid hr
          clear hr
          go_wp2
          refine HK2.out _ _ _ rfl ⟨k + 1, by omega, by go_num, fun j hj => ?_, HX3.out.trans H4.out, HMD.out⟩ (by simp [intOf, HU2.out]; omega)
          by_cases h : j = k
          · subst h; exact HR.out
          · exact HJ.out j (by omega)
      case hstop => exact fun _ _ _ _ h _ => h.elim
    · obtain rfl : k = i := by omega
      go_wp2
      refine HK.out _ _ _ rfl ⟨k + 1, by omega, by go_num, fun j hj => ?_, HXV.out.trans HX3.out, HM3.out⟩ (by simp [intOf, HU.out]; omega)
      by_cases h : j = k
      · subst h; exact bears_true HJ.out
      · exact HI.out j (by omega)
  · obtain rfl : i = g.length := by omega
    go_wp2
    exact leave_tmp rfl rfl HM2.out (HX0.out.trans HX.out) (by rw [show resN g s = true from bears_true HI.out]; rfl)
end Go.Proofs.YtkmfmhckpfomeaaGreatDoor

/- Whether a set is a code of a kind, and the check ahead of it: the reference and the program compute the same plain function. The condition: the list has at most 2^20 numbers. -/
namespace Go.Proofs.YtkmfmhckpfomeaaGreatDoor
open Go.RowKit
open BigFrame

theorem contains_cov {g : List Int} {s : Nat} : ((marksTo g s g.length).take g.length).contains (0 : Int) = !covN g s := by
  rw [List.take_of_length_le (by rw [marksTo_length]; exact Nat.le_refl _), Bool.eq_iff_iff, Bool.not_eq_true', ← Bool.not_eq_true, covN_iff, List.contains_iff_mem]
  unfold marksTo
  simp only [List.mem_map, List.mem_range]
  constructor
  · rintro ⟨i, hi, e⟩ h
    exact h i hi (by omega)
  · intro h
    apply Classical.byContradiction
    intro hn
    exact h fun i hi e => hn ⟨i, hi, by omega⟩

set_option maxRecDepth 100000 in
set_option maxHeartbeats 2000000 in
theorem is_c (b : Nat) (v vb vf : Value) (vs : List Value) (g : List Int) (K s : Nat) (w : World) (hb : IsBook w b g v vb vf vs) (hv : Rd w v g) (hg : IsGraph g) (hs : s < 2 ^ g.length) (hK : K ≤ 3) :
    Calls Tryz.prog 45 #[.pointer (some ⟨b, 0, none⟩), .int .i64 K, .int .i64 s] w fun e w' => e = .returned (.bool (kindN g K s)) ∧ Ext w w' := by
  have hl := hg.le
  have hl1 := hg.pos
  have hs4 : s ≤ 4095 := by have := pow_le_12 hl; omega
  obtain ⟨a, c, rfl⟩ := hv.form
  have HM := Lib.hid (marks_c b _ _ _ _ g s w hb hg hs4)
  have HR := Lib.hid (resolves_c b _ vb vf vs g s w hb hg hs ⟨a, c, rfl⟩)
  have HB := Lib.hid hb; have HG := Lib.hid hg; have HV := Lib.hid hv
  have cg := hb.graph
  have HAL := Lib.hid fun w hw => all_c (.slice a g.length c) g w hw hl
  obtain ⟨p, hp⟩ : ∃ p : Nat, 2 ^ g.length = p := ⟨_, rfl⟩
  have hp4 : p ≤ 4096 := by rw [← hp]; exact pow_le_12 hl
  have hp5 : 1 ≤ p := by rw [← hp]; exact Nat.two_pow_pos _
  rw [hp] at HAL
  have HU1 : Hid (p - 1 < 2 ^ g.length ∧ unlikeN g s (p - 1) = apartN g s true) := ⟨by rw [hp]; omega, unlikeN_apart fun j hj => by rw [← hp, Nat.testBit_two_pow_sub_one]; simp [hj]⟩
  have HU2 : Hid (without (p - 1) s < 2 ^ g.length ∧ unlikeN g s (without (p - 1) s) = apartN g s false) := ⟨without_lt HU1.out.1, unlikeN_apart fun j hj => by rw [testBit_without, ← hp, Nat.testBit_two_pow_sub_one]; simp [hj]⟩
  have e2 := bits_andNot (p - 1) s (by omega) (by omega)
  clear hb hg hv hp hs
  obtain rfl | rfl | rfl | rfl : K = 0 ∨ K = 1 ∨ K = 2 ∨ K = 3 := by omega
  · have HKN : Hid (kindN g 0 s = covN g s) := rfl
    rw [HKN.out]
    go_enter Tryz.func45, Tryz.ntmps45
    go_wp2_with fail
    refine HM.out.mono ?_
    rintro e w1 ⟨vm, rfl, om, x1⟩
    have X1 := Lib.hid x1; clear x1
    have rm := om.rd
    rcases om.get with ⟨rfl, hnil⟩ | ⟨gm, cm, rfl, -, -, hcm, hcells, -⟩
    · have h1 := congrArg List.length hnil
      rw [marksTo_length, List.length_nil] at h1
      omega
    · rw [marksTo_length] at hcm hcells rm ⊢
      have OM := Lib.hid rm
      have HCT := Lib.hid (Tryz.slices_Contains_int gm 0 g.length cm (marksTo g s g.length) 0 w1 (by rw [marksTo_length]; exact Nat.le_refl _) (by omega) (fun j hj => by rw [marksTo_length] at hj; rw [Nat.zero_add]; exact hcells j hj))
      rw [contains_cov] at HCT
      have ck := (HB.out.ext X1.out).graph
      clear hcells om rm
      cases hcv : covN g s
      · rw [hcv] at HCT
        have HCV := Lib.hid hcv
        clear hcv
        go_wp2_with fail
        refine HCT.out.mono ?_
        rintro e w' ⟨rfl, rfl⟩
        go_wp2
        go_ret
        exact ⟨ret_bool (by rw [HCV.out]), X1.out⟩
      · rw [hcv] at HCT
        have HCV := Lib.hid hcv
        clear hcv
        go_wp2_with fail
        refine HCT.out.mono ?_
        rintro e w' ⟨rfl, rfl⟩
        go_wp2
        go_ret
        exact ⟨ret_bool HCV.out.symm, X1.out⟩
  · have HKN : Hid (kindN g 1 s = (covN g s && apartN g s false)) := rfl
    rw [HKN.out]
    go_enter Tryz.func45, Tryz.ntmps45
    go_wp2_with fail
    refine HM.out.mono ?_
    rintro e w1 ⟨vm, rfl, om, x1⟩
    have X1 := Lib.hid x1; clear x1
    have rm := om.rd
    rcases om.get with ⟨rfl, hnil⟩ | ⟨gm, cm, rfl, -, -, hcm, hcells, -⟩
    · have h1 := congrArg List.length hnil
      rw [marksTo_length, List.length_nil] at h1
      omega
    · rw [marksTo_length] at hcm hcells rm ⊢
      have OM := Lib.hid rm
      have HCT := Lib.hid (Tryz.slices_Contains_int gm 0 g.length cm (marksTo g s g.length) 0 w1 (by rw [marksTo_length]; exact Nat.le_refl _) (by omega) (fun j hj => by rw [marksTo_length] at hj; rw [Nat.zero_add]; exact hcells j hj))
      rw [contains_cov] at HCT
      have ck := (HB.out.ext X1.out).graph
      clear hcells om rm
      cases hcv : covN g s
      · rw [hcv] at HCT
        have HCV := Lib.hid hcv
        clear hcv
        go_wp2_with fail
        refine HCT.out.mono ?_
        rintro e w' ⟨rfl, rfl⟩
        go_wp2
        go_ret
        exact ⟨ret_bool (by rw [HCV.out]; rfl), X1.out⟩
      · rw [hcv] at HCT
        have HCV := Lib.hid hcv
        clear hcv
        go_wp2_with fail
        refine HCT.out.mono ?_
        rintro e w' ⟨rfl, rfl⟩
        go_wp2_with fail
        refine (HAL.out _ (HV.out.ext X1.out)).mono ?_
        rintro e w' ⟨rfl, rfl⟩
        clear ck
        go_wp2_with fail
        refine (unlike_c _ g s (without (p - 1) s) _ OM.out HG.out HU2.out.1).mono ?_
        rintro e w2 ⟨rfl, x2⟩
        rw [HU2.out.2]
        have X2 := Lib.hid (X1.out.trans x2); clear x2
        go_wp2
        go_ret
        exact ⟨ret_bool (by rw [HCV.out]; rfl), X2.out⟩
  · have HKN : Hid (kindN g 2 s = (covN g s && apartN g s true)) := rfl
    rw [HKN.out]
    go_enter Tryz.func45, Tryz.ntmps45
    go_wp2_with fail
    refine HM.out.mono ?_
    rintro e w1 ⟨vm, rfl, om, x1⟩
    have X1 := Lib.hid x1; clear x1
    have rm := om.rd
    rcases om.get with ⟨rfl, hnil⟩ | ⟨gm, cm, rfl, -, -, hcm, hcells, -⟩
    · have h1 := congrArg List.length hnil
      rw [marksTo_length, List.length_nil] at h1
      omega
    · rw [marksTo_length] at hcm hcells rm ⊢
      have OM := Lib.hid rm
      have HCT := Lib.hid (Tryz.slices_Contains_int gm 0 g.length cm (marksTo g s g.length) 0 w1 (by rw [marksTo_length]; exact Nat.le_refl _) (by omega) (fun j hj => by rw [marksTo_length] at hj; rw [Nat.zero_add]; exact hcells j hj))
      rw [contains_cov] at HCT
      have ck := (HB.out.ext X1.out).graph
      clear hcells om rm
      cases hcv : covN g s
      · rw [hcv] at HCT
        have HCV := Lib.hid hcv
        clear hcv
        go_wp2_with fail
        refine HCT.out.mono ?_
        rintro e w' ⟨rfl, rfl⟩
        go_wp2
        go_ret
        exact ⟨ret_bool (by rw [HCV.out]; rfl), X1.out⟩
      · rw [hcv] at HCT
        have HCV := Lib.hid hcv
        clear hcv
        go_wp2_with fail
        refine HCT.out.mono ?_
        rintro e w' ⟨rfl, rfl⟩
        go_wp2_with fail
        refine (HAL.out _ (HV.out.ext X1.out)).mono ?_
        rintro e w' ⟨rfl, rfl⟩
        clear ck
        go_wp2_with fail
        refine (unlike_c _ g s (p - 1) _ OM.out HG.out HU1.out.1).mono ?_
        rintro e w2 ⟨rfl, x2⟩
        rw [HU1.out.2]
        have X2 := Lib.hid (X1.out.trans x2); clear x2
        go_wp2
        go_ret
        exact ⟨ret_bool (by rw [HCV.out]; rfl), X2.out⟩
  · have HKN : Hid (kindN g 3 s = resN g s) := rfl
    rw [HKN.out]
    go_enter Tryz.func45, Tryz.ntmps45
    go_wp2_with fail
    refine HR.out.mono ?_
    rintro e w1 ⟨rfl, x1⟩
    go_wp2
    go_ret
    exact ⟨rfl, x1⟩
end Go.Proofs.YtkmfmhckpfomeaaGreatDoor
