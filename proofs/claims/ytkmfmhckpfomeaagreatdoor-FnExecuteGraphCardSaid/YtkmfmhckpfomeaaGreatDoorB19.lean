/- What the walks of this seat rest on, one part: plain facts, and contracts of the functions that they reach. Each states its own condition. -/
import Derived.Test.YtkmfmhckpfomeaaGreatDoorB18
import Derived.Test.YtkmfmhckpfomeaaGreatDoorB13
import Derived.Test.YtkmfmhckpfomeaaGreatDoorB8
import Derived.Test.YtkmfmhckpfomeaaGreatDoorB5
import Derived.Test.YtkmfmhckpfomeaaGreatDoorB11
set_option linter.all false
set_option linter.unusedSimpArgs false
set_option linter.unusedVariables false
/- The forks of a tree, and the number that leaves and forks tell: the program's functions compute the plain ones. The condition: the list has at most 2^20 numbers, each below 2^63. -/
namespace Go.Proofs.YtkmfmhckpfomeaaGreatDoor
open Go.RowKit
open BigFrame
attribute [local go_sem] Oper.semAt_some

theorem leave_fork {fn : Func} {p : Tmp} {r : Int} {g : List Int} {l : Nat} {w W : World} {tmps : Array Value} {ds : List Deferred} (hr : fn.results = #[.tmp p])
    (hp : tmps.getD p undef = .int .i64 r) (hm : Marks w.heap.size W ds) (hx : Ext w W) (hf : IsFork g l r) :
    LeavesInM Fence.wide 0 Tryz.prog fn tmps (fun e w' => (∃ r : Int, e = .returned (.int .i64 r) ∧ IsFork g l r) ∧ Ext w w') ds .returning W := by
  refine leaves_marks (B := w.heap.size) (.int .i64 r) _ _ hm fun W' hW' => ⟨?_, ⟨r, rfl, hf⟩, hx.book (Nat.le_refl _) hW'⟩
  rw [← hp]
  simp [results, hr]
/-- The node that the loop over a set has seen last, below y; x for none. -/
def lastOf (X x y m : Nat) : Nat := if X.testBit m && decide (m < y) then m else x

set_option maxRecDepth 100000 in
set_option maxHeartbeats 4000000 in
theorem forkOf_c (v : Value) (g : List Int) (l : Nat) (w : World) (hv : Rd w v g) (ht : IsTree g) (hl1 : deg g l = 1) (ll : l < g.length) :
    Calls Tryz.prog 175 #[v, .int .i64 l] w fun e w' => (∃ r : Int, e = .returned (.int .i64 r) ∧ IsFork g l r) ∧ Ext w w' := by
  obtain ⟨a, c, rfl⟩ := hv.form
  have hl := ht.graph.le
  have HT := Lib.hid ht; have HG := Lib.hid ht.graph; have HLL := Lib.hid ll
  have HA : Hid (At g l 0 (-1) l) := .inl ⟨rfl, rfl, rfl, hl1⟩
  have ll11 : l ≤ 11 := by omega
  obtain ⟨W, hW⟩ : ∃ W, W = w.alloc (.cells #[.int .i64 l] 3) := ⟨_, rfl⟩
  have hx0 : Ext w W := by rw [hW]; exact (Ext.refl _).alloc _
  have v0 : Var W w.heap.size (.int .i64 l) := by rw [hW]; exact Var.new _ _ _
  have HW := Lib.hid hW; have HX0 := Lib.hid hx0; have V0 := Lib.hid v0; have HV := Lib.hid hv
  clear hW hx0 v0 hv ht hl1 ll
  refine calls_marks Tryz.func175 rfl ?_
  simp only [Tryz.ntmps175, List.size_toArray, List.length_cons, List.length_nil, Nat.reduceAdd, Nat.reduceSub, Array.replicate_succ, Array.replicate_zero, List.push_toArray, List.append_toArray, List.nil_append, List.cons_append]
  go_wp2
  rw [← HW.out]
  refine wp_loop_marks [5, 7, 8, 10, 11, 12, 13, 14, 15, 16, 17, 18, 19, 20, 21, 22, 23, 24, 25, 26, 27, 28, 29, 30]
    (fun u ds wr => ∃ (k x S : Nat) (last : Int), u 5 = .int .i64 S ∧ S < 2 ^ g.length ∧ x ≤ 11 ∧ Been g l k S ∧ At g l k last x ∧ Var wr w.heap.size (.int .i64 x) ∧ Ext w wr ∧ Marks w.heap.size wr ds)
    (fun u _ => 4097 - (intOf (u 5)).toNat) ⟨0, l, 0, -1, rfl, Nat.two_pow_pos _, ll11, Been.start g l, HA.out, V0.out, HX0.out, Marks.nil _ _⟩ ?_
  clear HA V0 HX0 HW ll11
  rintro u ds w2 ⟨k, x, S, last, hu5, hS, hx11, hb, ha, hvx, hxx, hmk⟩ K HK
  simp only [fillFrom, List.contains_cons, List.contains_nil, Nat.reduceBEq, Nat.reduceAdd, Bool.or_false, Bool.or_true, if_true, if_false, Bool.false_eq_true, hu5] at ⊢
  have HU := Lib.hid hu5; have HB := Lib.hid hb; have HA := Lib.hid ha; have HVX := Lib.hid hvx; have HX := Lib.hid hxx; have HM := Lib.hid hmk
  have hS4 : S ≤ 4095 := by have h2 := pow_le_12 hl; omega
  have HSN := Lib.hid hS
  have hxl := ha.lt HG.out HLL.out
  have c5 := hvx.cell
  have HDg := Lib.hid (degree_c (.slice a g.length c) g x w2 (HV.out.ext hxx) HG.out hxl)
  clear hu5 hb ha hvx hxx hmk hS
  by_cases h3 : deg g x < 3
  · have hd2 : Hid (deg g x ≤ 2) := by unfold Hid; omega
    obtain ⟨b, o, rfl, -, -, hc⟩ := HV.out.atI hxl
    have c1 := hc w2 HX.out
    rw [HG.out.row x hxl] at c1
    have hg4 := HG.out.small x
    clear hc
    obtain ⟨p, hp, hp1, hp2, hp3⟩ := pow_var x (by omega)
    have hp4 : p ≤ 2048 := by rw [← hp]; exact (Nat.pow_le_pow_right (by omega) hx11 : 2 ^ x ≤ 2 ^ 11)
    have e0 : min x 64 = x := by omega
    have e1 := bits_or S p (by omega) (by omega)
    have hb4 : bor S p ≤ 4095 := by have := bor_lt (x := S) (y := p) (n := 12) (by omega) (by omega); omega
    have e2 := bits_andNot (gN g x) (bor S p) (by omega) (by omega)
    have hX4 := without_le (gN g x) (bor S p) hg4
    have HXN : Hid (without (gN g x) (bor S p) < 2 ^ g.length) := without_lt (HG.out.lt x)
    have HSB : Hid (bor S p < 2 ^ g.length) := bor_lt HSN.out (by rw [← hp]; exact Nat.pow_lt_pow_right (by omega) hxl)
    have HGR : Hid (S + 1 ≤ bor S p) := by rw [← hp]; exact bor_grow (HB.out.fresh HT.out HA.out)
    have HCD : Hid (∀ z, (without (gN g x) (bor S p)).testBit z = true ↔ Cand g last x z) := by rw [← hp]; exact HB.out.cand HT.out HA.out HLL.out
    have HST : Hid (∀ m, Leg g l k x m → Been g l (k + 1) (bor S p)) := by rw [← hp]; exact fun m hm => HB.out.step HG.out hm
    clear hp
    generalize bor S p = S2 at *
    generalize without (gN g x) S2 = X at *
    generalize gN g x = gx at *
    obtain ⟨dx, hdx⟩ : ∃ dx, dx = deg g x := ⟨_, rfl⟩
    rw [← hdx] at h3 HDg
    clear hdx
    by_cases hz : X = 0
    · subst hz
      have HR : Hid (IsFork g l (-1)) := .inr ⟨rfl, HA.out.stop HG.out hd2.out fun z hc => by
        have := (HCD.out z).2 hc
        rw [Nat.zero_testBit] at this
        cases this⟩
      go_wp2_with (go_at_call 176; refine HDg.out.mono ?_; rintro e w' ⟨rfl, rfl⟩)
      exact leave_fork rfl rfl HM.out HX.out HR.out
    · have hz' : ((X : Int) == 0) = false := by simp; omega
      obtain ⟨m, hmX⟩ := bits_some hX4 (fun e => hz ((cnt_zero hX4).1 e))
      have hleg := HA.out.next HG.out hd2.out ((HCD.out m).1 hmX)
      have HON : Hid (∀ z, X.testBit z = true ↔ z = m) := fun z => by
        constructor
        · intro h
          exact (leg_det HG.out (HA.out.next HG.out hd2.out ((HCD.out z).1 h)) hleg).2
        · rintro rfl; exact hmX
      have hml := (adj_lt HG.out (leg_adj hleg)).2
      have HBN := Lib.hid (HST.out m hleg)
      have HAN : Hid (At g l (k + 1) x m) := At.step hleg
      clear hz hmX hleg
      obtain ⟨W2, hW2⟩ : ∃ V, V = w2.alloc (.cells #[.int .i64 X] 3) := ⟨_, rfl⟩
      have hx2 : Ext w2 W2 := by rw [hW2]; exact (Ext.refl _).alloc _
      have hv2 : Var W2 w2.heap.size (.int .i64 X) := by rw [hW2]; exact Var.new _ _ _
      have hs2 : W2.heap.size = w2.heap.size + 1 := by rw [hW2]; simp
      have HW2 := Lib.hid hW2; have HX2 := Lib.hid hx2; have HV2 := Lib.hid hv2
      clear hW2 hx2 hv2
      go_wp2_with (first
        | (go_at_call 176; refine HDg.out.mono ?_; rintro e w' ⟨rfl, rfl⟩)
        | (go_at_call 62; refine (nodes_c _ _).mono ?_; rintro e w' ⟨rfl, rfl⟩))
      rw [← HW2.out]
      have hl6 : w.heap.size < w2.heap.size := HVX.out.lt
      refine wp_range (nodes_iter w2.heap.size X g.length HXN.out (by omega)) rfl nodes_enters rfl
        (fun y W' => Var W' w.heap.size (.int .i64 (lastOf X x y m : Nat)) ∧ Var W' w2.heap.size (.int .i64 X) ∧ Ext w W' ∧ Marks w.heap.size W' ds ∧ W2.heap.size ≤ W'.heap.size)
        (fun _ _ => False)
        ?hI ?hIx ?hKi ?h0 ?hskip ?hround ?hdone ?hstop
      case hI =>
        rintro j W' W'' hB ⟨h1, h2, h3, h4, h5⟩
        exact ⟨h1.book hB (by omega), h2.book hB (by omega), h3.book (by omega) hB, h4.book hB (fun k hk => by have := HM.out.lt k hk; omega), Nat.le_trans h5 hB.size⟩
      case hIx => exact fun _ _ _ _ h => h
      case hKi =>
        rintro j W' ⟨_, h2, _⟩
        exact h2.cell
      case h0 =>
        refine ⟨?_, HV2.out, HX.out.trans HX2.out, HM.out.ext HX2.out, Nat.le_refl _⟩
        have e : lastOf X x 0 m = x := by unfold lastOf; rw [decide_eq_false (Nat.not_lt_zero m), Bool.and_false]; rfl
        rw [e]
        exact HVX.out.ext HX2.out
      case hskip =>
        rintro j W' hj hp ⟨h1, h2⟩
        refine ⟨?_, h2⟩
        have hjm : j ≠ m := fun e => by rw [e, (HON.out m).2 rfl] at hp; cases hp
        have e : lastOf X x (j + 1) m = lastOf X x j m := by
          unfold lastOf
          rw [show decide (m < j + 1) = decide (m < j) from by rw [Bool.eq_iff_iff, decide_eq_true_iff, decide_eq_true_iff]; omega]
        rw [e]; exact h1
      case hround =>
        rintro l' j W' hj hp ⟨h1, h2, h3', h4, h5⟩ hsz
        gi_wp2
        refine ⟨KeepsFrom.refl _ _, fun W'' hB => ?_⟩
        have H1 : Hid (Var W'' w.heap.size (.int .i64 (lastOf X x j m : Nat))) := h1.book hB (by omega)
        have H2 : Hid (Var W'' w2.heap.size (.int .i64 X)) := h2.book hB (by omega)
        have H3 : Hid (Ext w W'') := h3'.book (by omega) hB
        have H4 : Hid (Marks w.heap.size W'' ds) := h4.book hB (fun k hk => by have := HM.out.lt k hk; omega)
        have l9 : W2.heap.size ≤ W''.heap.size := Nat.le_trans h5 hB.size
        have hjm := (HON.out j).1 hp
        have HE : Hid (lastOf X x (j + 1) m = j) := by
          subst hjm
          unfold lastOf Hid
          rw [(HON.out j).2 rfl, decide_eq_true (by omega)]; rfl
        clear h1 h2 h3' h4 h5 hB hp hsz hjm
        have c5' := H1.out.cell
        have f5' := H1.out.frozen
        gi_wp2
        refine ⟨KeepsFrom.setCell' _ _ _ _, ?_, H2.out.other (by omega) _, H3.out.setCell (by show w.heap.size ≤ w.heap.size; omega) _, H4.out.setCell _ _, ?_⟩
        · rw [HE.out]; exact H1.out.set _
        · simp; omega
      case hdone =>
        rintro D' W' hD ⟨h1, h2, h3', h4, h5⟩ hDD
        have e : lastOf X x g.length m = m := by unfold lastOf; rw [(HON.out m).2 rfl, decide_eq_true hml]; rfl
        rw [e] at h1
        have H1 := Lib.hid h1; have H3 := Lib.hid h3'; have H4 := Lib.hid h4; have HDD := Lib.hid hDD
        clear h1 h2 h3' h4 hDD e
        go_wp2
        refine HK.out _ _ _ rfl ⟨k + 1, m, S2, x, rfl, HSB.out, by omega, HBN.out, HAN.out, H1.out, H3.out, H4.out.cons (n := W2.heap.size) (fun k hk => by have := HM.out.lt k hk; omega) hD (Nat.le_trans (HX.out.trans HX2.out).size hD) HDD.out⟩ ?_
        have hgr := HGR.out
        simp [intOf, HU.out]
        omega
      case hstop => exact fun _ _ _ _ h _ => h.elim
  · have HR : Hid (IsFork g l x) := .inl ⟨x, rfl, hx11, HA.out.fork (by omega)⟩
    generalize deg g x = dx at h3 HDg
    go_wp2_with (go_at_call 176; refine HDg.out.mono ?_; rintro e w' ⟨rfl, rfl⟩)
    exact leave_fork rfl rfl HM.out HX.out HR.out
set_option maxRecDepth 100000 in
set_option maxHeartbeats 4000000 in
theorem forks_c (v : Value) (g : List Int) (w : World) (hv : Rd w v g) (ht : IsTree g) :
    Calls Tryz.prog 137 #[v] w fun e w' => e = .returned (.int .i64 (forksN g : Nat)) ∧ Ext w w' := by
  obtain ⟨a, c, rfl⟩ := hv.form
  have hl := ht.graph.le
  have HT := Lib.hid ht; have HG := Lib.hid ht.graph
  obtain ⟨W, hW, hx, hsz, c0, c1, f0, f1⟩ := two_new w (.slice a g.length c) (.int .i64 0) 62 3
  have HW := Lib.hid hW; have HX := Lib.hid hx; have HV := Lib.hid hv
  have VG : Hid (Var W w.heap.size (.slice a g.length c)) := ⟨c0, f0, by omega⟩
  have VS : Hid (Var W (w.heap.size + 1) (.int .i64 0)) := ⟨c1, f1, by omega⟩
  have HLV := Lib.hid (leaves_c (.slice a g.length c) g W (hv.ext hx) ht.graph)
  have hs4 := leaves_small ht.graph
  have HSN : Hid (leavesN g < 2 ^ g.length) := mask_lt _ _
  have HLB : Hid (∀ x, (leavesN g).testBit x = true ↔ x < g.length ∧ deg g x = 1) := fun x => leaves_bit
  have HNL : Hid (∀ x, (leavesN g).testBit x = false → ∀ f, ¬ Fork g x f) := fun x h => no_leaf HG.out h
  generalize leavesN g = S at *
  have c0' := c0
  have l1 : w.heap.size + 2 = W.heap.size := by omega
  rw [hW] at c0'
  obtain ⟨W2, hW2⟩ : ∃ V, V = W.alloc (.cells #[.int .i64 S] 3) := ⟨_, rfl⟩
  have hx2 : Ext W W2 := by rw [hW2]; exact (Ext.refl _).alloc _
  have hv2 : Var W2 W.heap.size (.int .i64 S) := by rw [hW2]; exact Var.new _ _ _
  have hs2 : W2.heap.size = W.heap.size + 1 := by rw [hW2]; simp
  have HW2 := Lib.hid hW2; have HX2 := Lib.hid hx2; have HV2 := Lib.hid hv2
  clear hv ht hW hx hsz c0 c1 f0 f1 hW2 hx2 hv2
  refine calls_marks Tryz.func137 rfl ?_
  simp only [Tryz.ntmps137, List.size_toArray, List.length_cons, List.length_nil, Nat.reduceAdd, Nat.reduceSub, Array.replicate_succ, Array.replicate_zero, List.push_toArray, List.append_toArray, List.nil_append, List.cons_append]
  go_wp2_with fail
  rw [← HW.out]
  refine HLV.out.mono ?_
  rintro e w' ⟨rfl, rfl⟩
  go_wp2_with (go_at_call 62; refine (nodes_c _ _).mono ?_; rintro e w' ⟨rfl, rfl⟩)
  rw [← HW2.out]
  refine wp_range (nodes_iter W.heap.size S g.length HSN.out (by omega)) rfl nodes_enters rfl
    (fun y W' => ∃ X, X ≤ 4095 ∧ ForksTo g y X ∧ Var W' w.heap.size (.slice a g.length c) ∧ Var W' (w.heap.size + 1) (.int .i64 (X : Nat)) ∧ Var W' W.heap.size (.int .i64 S) ∧ Ext w W' ∧ W2.heap.size ≤ W'.heap.size)
    (fun _ _ => False)
    ?hI ?hIx ?hKi ?h0 ?hskip ?hround ?hdone ?hstop
  case hI =>
    rintro j W' W'' hB ⟨X, h1, h2, h3, h4, h5, h7, h8⟩
    exact ⟨X, h1, h2, h3.book hB (by omega), h4.book hB (by omega), h5.book hB (by omega), h7.book (by omega) hB, Nat.le_trans h8 hB.size⟩
  case hIx => exact fun _ _ _ _ h => h
  case hKi =>
    rintro j W' ⟨X, _, _, _, _, h5, _⟩
    exact h5.cell
  case h0 => exact ⟨0, by omega, ForksTo.start g, VG.out.ext HX2.out, VS.out.ext HX2.out, HV2.out, HX.out.trans HX2.out, Nat.le_refl _⟩
  case hskip =>
    rintro j W' hj hp ⟨X, h1, h2, h3⟩
    exact ⟨X, h1, h2.skip (HNL.out j hp), h3⟩
  case hround =>
    rintro l j W' hj hp ⟨X, hX4, h2, h3, h4, h5, h7, h8⟩ hsz
    gi_wp2
    refine ⟨KeepsFrom.refl _ _, fun W'' hB => ?_⟩
    have HFT := Lib.hid h2
    have V1 : Hid (Var W'' w.heap.size (.slice a g.length c)) := h3.book hB (by omega)
    have V2 : Hid (Var W'' (w.heap.size + 1) (.int .i64 X)) := h4.book hB (by omega)
    have V3 : Hid (Var W'' W.heap.size (.int .i64 S)) := h5.book hB (by omega)
    have X2 : Hid (Ext w W'') := h7.book (by omega) hB
    have l9 : W2.heap.size ≤ W''.heap.size := Nat.le_trans h8 hB.size
    have hlf := (HLB.out j).1 hp
    have HF := Lib.hid (forkOf_c (.slice a g.length c) g j W'' (HV.out.ext X2.out) HT.out hlf.2 hlf.1)
    clear h2 h3 h4 h5 h7 h8 hB hp hsz hlf
    have k1 := V1.out.cell
    gi_wp2_with fail
    refine (callsFW HF.out).mono ?_
    rintro e w3 ⟨⟨r, rfl, hr⟩, x3⟩
    have U1 := Lib.hid (V1.out.ext x3); have U2 := Lib.hid (V2.out.ext x3); have U3 := Lib.hid (V3.out.ext x3); have Y2 := Lib.hid (X2.out.trans x3)
    have YK : Hid (KeepsFrom W2.heap.size W'' w3) := KeepsFrom.of_ext x3
    have l10 : W2.heap.size ≤ w3.heap.size := Nat.le_trans l9 x3.size
    clear x3 V1 V2 V3 X2 k1 HF
    rcases hr with ⟨f, rfl, hf11, hf⟩ | ⟨rfl, hn⟩
    · obtain ⟨p, hp, hp1, hp2, hp3⟩ := pow_var f (by omega)
      have hp4 : p ≤ 2048 := by rw [← hp]; exact (Nat.pow_le_pow_right (by omega) hf11 : 2 ^ f ≤ 2 ^ 11)
      have e0 : min f 64 = f := by omega
      have e1 := bits_or X p (by omega) (by omega)
      have hb4 : bor X p ≤ 4095 := by have := bor_lt (x := X) (y := p) (n := 12) (by omega) (by omega); omega
      have HN : Hid (ForksTo g (j + 1) (bor X p)) := by rw [← hp]; exact HFT.out.more HG.out hf
      generalize bor X p = Y at e1 hb4 HN
      have k2 := fun u => (U2.out.ext (clip_ext w3 u)).cell
      clear hp hf
      gi_wp2
      refine wpIn_quiet_tail (ro := some l) (C := fun w' => ∃ u, w' = clip w3 u) 4 (by kernel_rfl) (by kernel_rfl) (by kernel_rfl) ⟨_, (clip_of (Ext.refl w3).drew).symm⟩ ?_
      simp only [List.take_succ_cons, List.take_zero, List.drop_succ_cons, List.drop_zero]
      repeat (go_big_quiet_step (fail))
      refine wpQuiet_nil ?_
      rintro _ ⟨u', rfl⟩
      have xc := Lib.hid (clip_ext w3 u')
      obtain ⟨q1, q2, -⟩ := U2.out.ext xc.out
      gi_wp2
      refine ⟨YK.out.trans ((KeepsFrom.of_ext xc.out).trans (KeepsFrom.setCell' _ _ _ _)), Y, hb4, HN.out, (U1.out.ext xc.out).other (by omega) _, (U2.out.ext xc.out).set _, (U3.out.ext xc.out).other (by omega) _, (Y2.out.trans xc.out).setCell (by show w.heap.size ≤ w.heap.size + 1; omega) _, ?_⟩
      have := xc.out.size; simp; omega
    · have HN : Hid (ForksTo g (j + 1) X) := HFT.out.skip hn
      clear hn
      gi_wp2
      exact ⟨YK.out, X, hX4, HN.out, U1.out, U2.out, U3.out, Y2.out, l10⟩
  case hdone =>
    rintro D' W' hD ⟨X, hX4, h2, h3, h4, h5, h7, h8⟩ hDD
    have HE : Hid (X = forksN g) := ForksTo.end HG.out h2
    have k1 := h4.cell
    have H7 := Lib.hid h7
    have HM : Hid (Marks w.heap.size W' [{ target := .collected D', args := #[] }]) := (Marks.nil _ _).cons (n := W2.heap.size) (fun k hk => by simp at hk) hD (by omega) hDD
    clear h2 h3 h4 h5 h7 hDD
    go_wp2
    exact leave_tmp rfl rfl HM.out H7.out (by rw [HE.out]; rfl)
  case hstop => exact fun _ _ _ _ h _ => h.elim

set_option maxHeartbeats 1000000 in
theorem treeResI_c (v : Value) (g : List Int) (w : World) (hv : Rd w v g) (hm : g.length ≤ 1048576) (hb : ∀ i, getI g i < 9223372036854775808) :
    Calls Tryz.prog 97 #[v] w fun e w' => e = .returned (pairV (treeRes g)) ∧ Ext w w' := by
  have HV := Lib.hid hv
  have HC := Lib.hid (treeInI_c v g w hv hm hb)
  obtain ⟨a, c, rfl⟩ := hv.form
  clear hv hm hb
  cases h0 : treeB g
  · rw [h0] at HC
    rw [show treeRes g = (0, false) from by unfold treeRes; rw [h0]; rfl]
    clear h0
    go_enter Tryz.func97, Tryz.ntmps97
    go_wp2_with fail
    refine HC.out.mono ?_
    rintro e w1 ⟨rfl, x1⟩
    have X1 := Lib.hid x1; clear x1
    go_wp2
    go_ret2
    exact ⟨rfl, X1.out⟩
  · rw [h0] at HC
    have HT := Lib.hid (tree_of h0)
    have HE : Hid (treeRes g = (((treeNum g : Nat) : Int), true)) := by unfold treeRes Hid; rw [h0]; rfl
    have hl := HT.out.graph.le
    have hb := leaves_small HT.out.graph
    have hf4 := forks_small HT.out.graph
    have hfew := forks_few HT.out.graph
    rw [HE.out]
    have HN : Hid (treeNum g = if g.length = 1 then 0 else if forksN g = 0 then 1 else cnt (leavesN g) - cnt (forksN g)) := rfl
    clear h0 HE
    have HFK := Lib.hid fun u (h : Ext w u) => forks_c (.slice a g.length c) g u (HV.out.ext h) HT.out
    have HLV := Lib.hid fun u (h : Ext w u) => leaves_c (.slice a g.length c) g u (HV.out.ext h) HT.out.graph
    obtain ⟨L, hL⟩ : ∃ L, L = g.length := ⟨_, rfl⟩
    rw [← hL] at hl HC HFK HLV HN ⊢
    clear hL
    obtain ⟨S, hS⟩ : ∃ S, S = leavesN g := ⟨_, rfl⟩
    rw [← hS] at hb HLV HN hfew
    clear hS
    obtain ⟨F, hF⟩ : ∃ F, F = forksN g := ⟨_, rfl⟩
    rw [← hF] at hf4 HFK HN hfew
    clear hF
    by_cases h1 : L = 1
    · have f1 : ((L : Int) == 1) = true := by simp [h1]
      have HN' : Hid (treeNum g = 0) := by rw [HN.out, if_pos h1]; rfl
      clear h1
      go_enter Tryz.func97, Tryz.ntmps97
      go_wp2_with fail
      refine HC.out.mono ?_
      rintro e w1 ⟨rfl, x1⟩
      have X1 := Lib.hid x1; clear x1
      go_wp2
      go_ret2
      exact ⟨ret_pair' (by rw [HN'.out]; rfl), X1.out⟩
    · have f1 : ((L : Int) == 1) = false := by simp; omega
      rw [if_neg h1] at HN
      clear h1
      by_cases h2 : F = 0
      · have f2 : ((F : Int) == 0) = true := by simp [h2]
        have HN' : Hid (treeNum g = 1) := by rw [HN.out, if_pos h2]; rfl
        clear h2
        go_enter Tryz.func97, Tryz.ntmps97
        go_wp2_with fail
        refine HC.out.mono ?_
        rintro e w1 ⟨rfl, x1⟩
        have X1 := Lib.hid x1; clear x1
        go_wp2_with fail
        refine (HFK.out w1 X1.out).mono ?_
        rintro e w2 ⟨rfl, x2⟩
        have X2 := Lib.hid (X1.out.trans x2); clear x2
        go_wp2
        go_ret2
        exact ⟨ret_pair' (by rw [HN'.out]; rfl), X2.out⟩
      · have f2 : ((F : Int) == 0) = false := by simp; omega
        rw [if_neg h2] at HN
        clear h2
        have HCS := Lib.hid fun u => sizeC S hb u
        have HCF := Lib.hid fun u => sizeC F hf4 u
        obtain ⟨A, hA⟩ : ∃ A, A = cnt S := ⟨_, rfl⟩
        obtain ⟨B, hB⟩ : ∃ B, B = cnt F := ⟨_, rfl⟩
        have hA12 : A ≤ 12 := by rw [hA]; exact cnt_le S
        rw [← hA] at HN HCS hfew
        rw [← hB] at HN HCF hfew
        clear hA hB
        obtain ⟨D, hD, hDD⟩ : ∃ D : Nat, (A : Int) - (B : Int) = (D : Int) ∧ D = A - B := ⟨A - B, by omega, rfl⟩
        have HN' : Hid (treeNum g = D) := by rw [HN.out, hDD]; rfl
        clear hDD hfew
        go_enter Tryz.func97, Tryz.ntmps97
        go_wp2_with fail
        refine HC.out.mono ?_
        rintro e w1 ⟨rfl, x1⟩
        have X1 := Lib.hid x1; clear x1
        go_wp2_with fail
        refine (HFK.out w1 X1.out).mono ?_
        rintro e w2 ⟨rfl, x2⟩
        have X2 := Lib.hid (X1.out.trans x2); clear x2
        go_wp2_with fail
        refine (HLV.out w2 X2.out).mono ?_
        rintro e w' ⟨rfl, rfl⟩
        go_wp2_with fail
        refine (HCS.out w2).mono ?_
        rintro e w' ⟨rfl, rfl⟩
        go_wp2_with fail
        refine (HFK.out w2 X2.out).mono ?_
        rintro e w3 ⟨rfl, x3⟩
        have X3 := Lib.hid (X2.out.trans x3); clear x3
        go_wp2_with fail
        refine (HCF.out w3).mono ?_
        rintro e w' ⟨rfl, rfl⟩
        go_wp2
        go_ret2
        exact ⟨ret_pair' (by rw [HN'.out]), X3.out⟩
end Go.Proofs.YtkmfmhckpfomeaaGreatDoor

/- Depths by the reference: a table of the depths of all sets. No condition. -/
namespace Go.Proofs.YtkmfmhckpfomeaaGreatDoor
open Go.RowKit
open BigFrame

/-- In a plain frame: a statement that reads or calls quietly in its first n operations; the others come behind them. -/
theorem wp_region_tail {P : Program} {id : Nat} {Q : Exit → Act → World → Prop} {a : Act} {w : World} {l : List Oper} (n : Nat) (hm : P.follows .mixedOrders = true) (hB : Region.lexTailB .any l.toArray n = true) (hd : noDefer l.toArray = true)
    (h : wpQuiet P l.toArray (fun w' => ∃ u, w' = clip w u) (fun a' => ∀ w', (∃ u, w' = clip w u) → wpListIn (FW none) 0 P l.toArray Q (l.drop n) a' w') (l.take n) a) : (Code.region id l.toArray true).wp P Q a w :=
  (wpIn_wide (n := 0)).1 (wpIn_quiet_tail (ro := none) (C := fun w' => ∃ u, w' = clip w u) n hm hB hd ⟨w.drew, (clip_of (Ext.refl w).drew).symm⟩ h)

/-- A slice value that leads to memory made behind w. -/
def Fresh (w : World) (v : Value) : Prop := ∀ b o s n c, v = .slice (some ⟨b, o, s⟩) n c → w.heap.size ≤ b
theorem Rd.grown {w w' : World} {b o n c : Nat} {xs : List Int} {row : Option Nat} (h : Rd w (.slice (some ⟨b, o, none⟩) n c) xs) (hg : w.grownBy w' row) (hne : row ≠ some b) : Rd w' (.slice (some ⟨b, o, none⟩) n c) xs := by
  obtain ⟨a, c', e, h⟩ := h
  refine ⟨a, c', e, h.imp id ?_⟩
  rintro ⟨b', o', rfl, hb, hc, h⟩
  simp only [Value.slice.injEq, Option.some.injEq, Addr.mk.injEq] at e
  obtain ⟨⟨rfl, rfl, -⟩, -, -⟩ := e
  exact ⟨b, o, rfl, Nat.lt_of_lt_of_le hb hg.size, hc, fun i hi => (World.cell?_of_block (a := ⟨b, o + i, none⟩) (hg.block b hb (fun e => hne e.symm))).trans (h i hi)⟩

def depsOf (g : List Int) : List Int := (List.range (2 ^ g.length)).map fun s => ((dep g s : Nat) : Int)
theorem depsOf_length (g : List Int) : (depsOf g).length = 2 ^ g.length := by simp [depsOf]
theorem depsOf_get (g : List Int) {s : Nat} (h : s < 2 ^ g.length) : (depsOf g).getD s 0 = ((dep g s : Nat) : Int) := by simp [depsOf, h]
/-- The table while set k is worked at, behind y nodes. -/
def depT (g : List Int) (k y i : Nat) : Nat := if i < k then dep g i else if i = k then depTo g k y else 0
def depU (g : List Int) (k i : Nat) : Nat := if i < k then dep g i else 0

set_option maxRecDepth 100000 in
set_option maxHeartbeats 2000000 in
theorem l6qDepths_c (v : Value) (g : List Int) (w : World) (hv : Rd w v g) (hg : IsGraph g) :
    Calls Tryz.prog 192 #[v] w fun e w' => ∃ v', e = .returned v' ∧ Rd w' v' (depsOf g) ∧ Fresh w v' ∧ Ext w w' := by
  obtain ⟨a, c, rfl⟩ := hv.form
  have HV := Lib.hid hv; have HG := Lib.hid hg
  have hl := hg.le
  clear hv hg
  obtain ⟨p, hp, hp1, hp2, hp3⟩ := pow_var g.length (by omega)
  have hp4 : p ≤ 4096 := by rw [← hp]; exact pow_le_12 hl
  have HP := Lib.hid hp; clear hp
  have e0 : min g.length 64 = g.length := by omega
  obtain ⟨i0, hi, hz0, hz1, hz2⟩ := info_parts info_int
  go_enter Tryz.func192, Tryz.ntmps192
  go_wp2_with (at_make; refine wpList_make_full _ rfl _ _ 29 rfl w.heap.size 3 i0 (.int .i64 0) 1 Tryz.underlying29 hi hz0 hz1 _ _ _ _ p rfl rfl rfl rfl (by rw [hz2]; omega) (by unfold maxLen; omega) (Nat.le_refl _) ?_; intro w2 hown hg2)
  have HX : Hid (Ext w w2) := (Ext.refl w).grown hg2 (fun _ h => by cases h)
  have HC : Hid (∀ i, i < p → w2.cell? ⟨w.heap.size, i, none⟩ = some (.int .i64 (depU g 1 i : Nat))) := fun i hi => by
    have h := World.ownsRow.cellAt hown i (by omega)
    rw [h]
    simp only [Value.cells, Nat.mul_one, toList_madeCells_one]
    have : depU g 1 i = 0 := by
      unfold depU
      split
      · obtain rfl : i = 0 := by omega
        exact dep_one (by decide)
      · rfl
    simp [hi, this]
  have HF : Hid (∀ i, w2.frozen? ⟨w.heap.size, i, none⟩ = false) := fun i => World.ownsRow.frozenAt hown i
  have hsz : w.heap.size < w2.heap.size := by
    obtain ⟨_, ⟨h, _⟩ | ⟨g, cap, cur, h, _, hh, _⟩⟩ := hown
    · cases h
    · simp only [Value.slice.injEq, Option.some.injEq, Addr.mk.injEq, and_true] at h
      rw [h.1]; exact (Array.getElem?_eq_some_iff.1 hh).1
  clear hown hg2 hi hz0 hz1 hz2
  go_loopw [4] (fun i wr => ∃ k : Nat, 1 ≤ k ∧ k ≤ p ∧ i = .int .i64 k ∧ Hid (∀ i, i < p → wr.cell? ⟨w.heap.size, i, none⟩ = some (.int .i64 (depU g k i : Nat))) ∧ Hid (∀ i, wr.frozen? ⟨w.heap.size, i, none⟩ = false) ∧ Hid (Ext w wr) ∧ w.heap.size < wr.heap.size) (fun i _ => p - (intOf i).toNat)
  case atStart => exact ⟨1, by omega, by omega, rfl, HC, HF, HX, hsz⟩
  case round =>
    clear HC HF HX hsz
    obtain ⟨k, hk1, hk, rfl, HC, HF, HX, hsz⟩ := hrel
    by_cases hlt : k < p
    · have e1 := bits_and k (k - 1) (by omega) (by omega)
      rw [show ((k - 1 : Nat) : Int) = (k : Int) - 1 from by omega] at e1
      have hk4 : k ≤ 4095 := by omega
      by_cases h1 : band k (k - 1) = 0
      · have hb : (((band k (k - 1) : Nat) : Int) == 0) = true := by simp [h1]
        have HD := Lib.hid (dep_one (g := g) h1)
        clear h1
        go_wp2
        go_roundw
        case rel => exact ⟨k + 1, by omega, by omega, by go_num, fun i hi => by
          rw [HC.out i hi]
          have : depU g k i = depU g (k + 1) i := by
            unfold depU
            by_cases h : i = k
            · subst h; rw [if_neg (by omega), if_pos (by omega), HD.out]
            · by_cases h' : i < k
              · rw [if_pos h', if_pos (by omega)]
              · rw [if_neg h', if_neg (by omega)]
          rw [this], HF, HX, hsz⟩
        case measure => simp [intOf]; omega
      · have hb : (((band k (k - 1) : Nat) : Int) == 0) = false := by simp [h1]
        have HD := Lib.hid (dep_more (g := g) h1)
        have c1 := HC.out k hlt
        have f1 := HF.out k
        clear h1
        go_wp2
        obtain ⟨W, hW⟩ : ∃ V, V = wr.setCell ⟨w.heap.size, k, none⟩ (.int .i64 99) := ⟨_, rfl⟩
        rw [← hW]
        have HC2 : Hid (∀ i, i < p → W.cell? ⟨w.heap.size, i, none⟩ = some (.int .i64 (depT g k 0 i : Nat))) := fun i hi => by
          rw [hW]
          by_cases h : i = k
          · subst h
            rw [World.cell?_setCell_same' _ _ _ (by rw [c1]; rfl)]
            have : depT g i 0 i = 99 := by unfold depT; rw [if_neg (by omega), if_pos rfl]; rfl
            rw [this]; rfl
          · rw [World.cell?_setCell_other _ _ _ _ (fun e => h (congrArg Addr.off e).symm), HC.out i hi]
            have : depT g k 0 i = depU g k i := by unfold depT depU; rw [if_neg h]
            rw [this]
        have HF2 : Hid (∀ i, W.frozen? ⟨w.heap.size, i, none⟩ = false) := fun i => by rw [hW, World.frozen?_setCell]; exact HF.out i
        have HX2 : Hid (Ext w W) := by rw [hW]; exact HX.out.setCell (Nat.le_refl _) _
        have hsz2 : w.heap.size < W.heap.size := by rw [hW]; simpa using hsz
        clear hW c1 f1 HC HF HX hsz
        go_loopw [5] (fun i wr => ∃ y : Nat, y ≤ g.length ∧ i = .int .i64 y ∧ Hid (∀ i, i < p → wr.cell? ⟨w.heap.size, i, none⟩ = some (.int .i64 (depT g k y i : Nat))) ∧ Hid (∀ i, wr.frozen? ⟨w.heap.size, i, none⟩ = false) ∧ Hid (Ext w wr) ∧ w.heap.size < wr.heap.size) (fun i _ => g.length - (intOf i).toNat)
        case atStart => exact ⟨0, Nat.zero_le _, rfl, HC2, HF2, HX2, hsz2⟩
        case round =>
          clear HC2 HF2 HX2 hsz2
          obtain ⟨y, hy, rfl, HC, HF, HX, hsz⟩ := hrel
          by_cases hly : y < g.length
          · obtain ⟨I, hI⟩ : ∃ I, I = qIn g k y := ⟨_, rfl⟩
            obtain ⟨O, hO⟩ : ∃ O, O = without k (qIn g k y) := ⟨_, rfl⟩
            have HQ := Lib.hid (l6qIn_c (.slice a g.length c) g k y wr (HV.out.ext HX.out) HG.out hk4 hly)
            rw [← hI] at HQ
            have hI4 : I ≤ k := by rw [hI]; exact qIn_le _ _ _
            by_cases h1 : I = 0
            · have hI0 : ((I : Int) != 0) = false := by simp [h1]
              have HT : Hid (tells g k y = false) := by unfold Hid tells; rw [← hI]; simp [h1]
              clear hI hO
              go_wp2_with (go_at_call 198; refine HQ.out.mono ?_; rintro e w' ⟨rfl, x1⟩)
              rename_i w1
              have X1 := Lib.hid x1; clear x1
              go_roundw
              case rel => exact ⟨y + 1, by omega, by go_num, fun i hi => by
                rw [X1.out.cell hsz, HC.out i hi]
                have : depT g k y i = depT g k (y + 1) i := by
                  unfold depT
                  split
                  · rfl
                  · split
                    · show depTo g k y = min (depTo g k y) (depAt g k y)
                      have := minTo_le (depAt g k) y
                      have h2 : depAt g k y = 99 := by unfold depAt; rw [HT.out]; rfl
                      unfold depTo; omega
                    · rfl
                rw [this], fun i => by rw [X1.out.frozen hsz]; exact HF.out i, HX.out.trans X1.out, Nat.lt_of_lt_of_le hsz X1.out.size⟩
              case measure => simp [intOf]; omega
            · have hI0 : ((I : Int) != 0) = true := by simp [h1]
              by_cases h2 : I = k
              · have hIk : ((I : Int) != (k : Int)) = false := by simp [h2]
                have HT : Hid (tells g k y = false) := by unfold Hid tells; rw [← hI]; simp [h2]
                clear hI hO h2
                go_wp2_with (go_at_call 198; refine HQ.out.mono ?_; rintro e w' ⟨rfl, x1⟩)
                rename_i w1
                have X1 := Lib.hid x1; clear x1
                go_roundw
                case rel => exact ⟨y + 1, by omega, by go_num, fun i hi => by
                  rw [X1.out.cell hsz, HC.out i hi]
                  have : depT g k y i = depT g k (y + 1) i := by
                    unfold depT
                    split
                    · rfl
                    · split
                      · show depTo g k y = min (depTo g k y) (depAt g k y)
                        have := minTo_le (depAt g k) y
                        have h2 : depAt g k y = 99 := by unfold depAt; rw [HT.out]; rfl
                        unfold depTo; omega
                      · rfl
                  rw [this], fun i => by rw [X1.out.frozen hsz]; exact HF.out i, HX.out.trans X1.out, Nat.lt_of_lt_of_le hsz X1.out.size⟩
                case measure => simp [intOf]; omega
              · have hIk : ((I : Int) != (k : Int)) = true := by simp; omega
                have HT : Hid (tells g k y = true) := tells_iff.2 ⟨by rw [← hI]; exact h1, by rw [← hI]; exact h2⟩
                have HO : Hid (depAt g k y = 1 + max (dep g I) (dep g O)) := by unfold Hid depAt; rw [HT.out, if_pos rfl, ← hO, ← hI]
                have hOk : O < k := by rw [hO]; exact qOut_lt (by rw [← hI]; exact h1)
                have e2 := bits_andNot k I (by omega) (by omega)
                rw [show without k I = O from by rw [hO, hI]] at e2
                clear hI hO
                go_wp2_with fail
                refine HQ.out.mono ?_
                rintro e w1 ⟨rfl, x1⟩
                have X1 := Lib.hid (HX.out.trans x1)
                have HC1 : Hid (∀ i, i < p → w1.cell? ⟨w.heap.size, i, none⟩ = some (.int .i64 (depT g k y i : Nat))) := fun i hi => (x1.cell hsz).trans (HC.out i hi)
                have HF1 : Hid (∀ i, w1.frozen? ⟨w.heap.size, i, none⟩ = false) := fun i => (x1.frozen hsz).trans (HF.out i)
                have hsz1 : w.heap.size < w1.heap.size := Nat.lt_of_lt_of_le hsz x1.size
                have hq : depT g k y k = depTo g k y := by unfold depT; rw [if_neg (by omega), if_pos rfl]
                have hqI : depT g k y I = dep g I := by unfold depT; rw [if_pos (by omega)]
                have hqO : depT g k y O = dep g O := by unfold depT; rw [if_pos hOk]
                have ck := fun u => ((clip_ext w1 u).cell hsz1).trans (HC1.out k hlt)
                have cI := fun u => ((clip_ext w1 u).cell hsz1).trans (HC1.out I (by omega))
                have cO := fun u => ((clip_ext w1 u).cell hsz1).trans (HC1.out O (by omega))
                rw [hq] at ck
                rw [hqI] at cI
                rw [hqO] at cO
                have fk := fun u => ((clip_ext w1 u).frozen (x := w.heap.size) (o := k) hsz1).trans (HF1.out k)
                have hb1 : depTo g k y ≤ 99 := minTo_le _ _
                have hb2 := dep_le g I
                have hb3 := dep_le g O
                have HN : Hid (depTo g k (y + 1) = min (depTo g k y) (1 + max (dep g I) (dep g O))) := by unfold Hid; rw [← HO.out]; rfl
                obtain ⟨d0, hd0⟩ : ∃ d, d = depTo g k y := ⟨_, rfl⟩
                obtain ⟨d1, hd1⟩ : ∃ d, d = dep g I := ⟨_, rfl⟩
                obtain ⟨d2, hd2⟩ : ∃ d, d = dep g O := ⟨_, rfl⟩
                rw [← hd0] at ck hb1 HN
                rw [← hd1] at cI hb2 HN
                rw [← hd2] at cO hb3 HN
                clear x1 HC HF HX hsz hq hqI hqO hd0 hd1 hd2
                go_wp2
                refine wp_region_tail 20 (by kernel_rfl) (by kernel_rfl) (by kernel_rfl) ?_
                simp only [List.take_succ_cons, List.take_zero, List.drop_succ_cons, List.drop_zero]
                repeat (go_big_quiet_step (fail))
                all_goals
                 refine wpQuiet_nil ?_
                 rintro _ ⟨u, rfl⟩
                 have HW : ∀ z : Int, z = (depTo g k (y + 1) : Nat) → Hid (∀ i, i < p → ((clip w1 u).setCell ⟨w.heap.size, k, none⟩ (.int .i64 z)).cell? ⟨w.heap.size, i, none⟩ = some (.int .i64 (depT g k (y + 1) i : Nat))) := by
                   intro z hz i hi
                   by_cases h : i = k
                   · subst h
                     rw [World.cell?_setCell_same' _ _ _ (by rw [ck u]; rfl)]
                     have : depT g i (y + 1) i = depTo g i (y + 1) := by unfold depT; rw [if_neg (by omega), if_pos rfl]
                     rw [this, hz]
                   · rw [World.cell?_setCell_other _ _ _ _ (fun e => h (congrArg Addr.off e).symm), (clip_ext w1 u).cell hsz1, HC1.out i hi]
                     have : depT g k y i = depT g k (y + 1) i := by unfold depT; rw [if_neg h, if_neg h]
                     rw [this]
                 have HWF : Hid (∀ (z : Value) i, ((clip w1 u).setCell ⟨w.heap.size, k, none⟩ z).frozen? ⟨w.heap.size, i, none⟩ = false) := fun z i => by
                   rw [World.frozen?_setCell, (clip_ext w1 u).frozen hsz1]; exact HF1.out i
                 have HWX : Hid (∀ z : Value, Ext w ((clip w1 u).setCell ⟨w.heap.size, k, none⟩ z)) := fun z => (X1.out.trans (clip_ext w1 u)).setCell (Nat.le_refl _) _
                 have HWS : Hid (∀ z : Value, w.heap.size < ((clip w1 u).setCell ⟨w.heap.size, k, none⟩ z).heap.size) := fun z => by
                   have := (clip_ext w1 u).size
                   simp; omega
                 have HWH := Lib.hid HW
                 clear HW
                 gi_wp2
                 all_goals go_wp2
                 all_goals
                   go_roundw
                   case rel => exact ⟨y + 1, by omega, by go_num, HWH.out _ (by rw [HN.out]; omega), HWF.out _, HWX.out _, HWS.out _⟩
                   case measure => simp [intOf]; omega
          · obtain rfl : y = g.length := by omega
            go_wp2
            go_roundw
            case rel => exact ⟨k + 1, by omega, by omega, by go_num, fun i hi => by
              rw [HC.out i hi]
              have : depT g k g.length i = depU g (k + 1) i := by
                unfold depT depU
                by_cases h : i = k
                · subst h; rw [if_neg (by omega), if_pos rfl, if_pos (by omega), HD.out]
                · by_cases h' : i < k
                  · rw [if_pos h', if_pos (by omega)]
                  · rw [if_neg h', if_neg h, if_neg (by omega)]
              rw [this], HF, HX, hsz⟩
            case measure => simp [intOf]; omega
    · obtain rfl : k = p := by omega
      go_wp2
      go_ret
      refine ⟨_, rfl, ⟨some ⟨w.heap.size, 0, none⟩, k, by rw [depsOf_length, HP.out]; rfl, .inr ⟨w.heap.size, 0, rfl, hsz, by rw [depsOf_length, HP.out]; omega, fun i hi => ?_⟩⟩, fun b o s n c e => (by simp at e; omega), HX.out⟩
      rw [depsOf_length, HP.out] at hi
      rw [Nat.zero_add, HC.out i hi, depsOf_get g (by rw [HP.out]; exact hi)]
      unfold depU
      rw [if_pos hi]
end Go.Proofs.YtkmfmhckpfomeaaGreatDoor
