/- What the walks of this seat rest on, one part: plain facts, and contracts of the functions that they reach. Each states its own condition. -/
import Derived.Test.YtkmfmhckpfomeaaGreatDoorB24
import Derived.Test.YtkmfmhckpfomeaaGreatDoorB23
import Derived.Test.YtkmfmhckpfomeaaGreatDoorB15
import Derived.Test.YtkmfmhckpfomeaaGreatDoorB6
import Derived.Test.YtkmfmhckpfomeaaGreatDoorB12
import Derived.Test.YtkmfmhckpfomeaaGreatDoorB22
set_option linter.all false
set_option linter.unusedSimpArgs false
set_option linter.unusedVariables false
/- What the commands do, the program's side: other, code. No condition. -/
namespace Go.Proofs.YtkmfmhckpfomeaaGreatDoor
open Go.RowKit
open BigFrame
attribute [local go_sem] Oper.semAt_some

set_option maxRecDepth 100000 in
set_option maxHeartbeats 4000000 in
/-- other -/
theorem cmd3_c (b : Nat) (n : Value) (g : List Int) (c x y : Nat) (w : World) (hd : DeskG w b g c) :
    Calls Tryz.prog 80 #[.pointer (some ⟨b, 0, none⟩), n] w (Done w b g c (cmdR 3 g c x y)) := by
  obtain ⟨⟨k, m, h1, hkb, h3⟩, hf⟩ := hd
  have c0 := h1.graph
  have HC := Lib.hid (graphOtherI_c k m g w h3 hf.gr)
  have HF2 : Hid (Fit (otherG g) c) := ⟨other_isGraph hf.gr, by rw [otherG_length]; exact hf.lt⟩
  have HB := Lib.hid h1.lt
  have H1 := Lib.hid h1
  have HR : Hid (cmdR 3 g c x y = some (okS, otherG g, c)) := rfl
  rw [HR.out]
  simp only [listV] at HC
  clear h1 h3 hf hkb
  go_enter Tryz.func80, Tryz.ntmps80
  go_wp2_with fail
  refine HC.out.mono ?_
  rintro e w1 ⟨v1, rfl, o1, x1⟩
  obtain ⟨z1, z2, rfl⟩ := o1.slice HF2.out.gr.pos
  have X1 := Lib.hid x1; have O1 := Lib.hid o1
  clear x1 o1
  go_wp2_with fail
  refine (redraw_c b _ _ _ _ c _ _ (H1.out.ext X1.out)).mono ?_
  rintro e w2 ⟨rfl, d2, u2⟩
  have D2 := Lib.hid d2
  have U1 := Lib.hid u2
  have U2 := Lib.hid ((Upd.of_ext (b := b) X1.out).trans u2)
  clear d2 u2
  go_wp2
  go_ret2
  exact ⟨rfl, DeskG.graph O1.out HB.out U1.out D2.out HF2.out, U2.out⟩
set_option maxRecDepth 100000 in
set_option maxHeartbeats 4000000 in
/-- code -/
theorem cmd4_c (b : Nat) (n : Value) (g : List Int) (c x y : Nat) (w : World) (hd : DeskG w b g c) (hn : Rd w n (intsOf [x])) :
    Calls Tryz.prog 82 #[.pointer (some ⟨b, 0, none⟩), n] w (Done w b g c (cmdR 4 g c x y)) := by
  obtain ⟨⟨k, m, h1, hkb, h3⟩, hf⟩ := hd
  obtain ⟨q, o, m2, rfl, hq⟩ := arg_one hn
  have hl := hf.gr.le
  have c2 := hq _ (Ext.refl w).drew
  have c0 := (h1.ext (Ext.refl w).drew).graph
  have c1 := (h1.ext (Ext.refl w).drew).code
  have H1 := Lib.hid h1
  have HF := Lib.hid hf
  have HK := Lib.hid hkb
  have H3 := Lib.hid h3
  have HC := Lib.hid (isSet_c x g.length (by omega) w.drew)
  have HR : Hid (cmdR 4 g c x y = if x < 2 ^ g.length then some (okS, g, x) else none) := rfl
  rw [HR.out]
  have HS : Hid (setB x g.length = decide (x < 2 ^ g.length)) := by
    show setB x g.length = decide (x < 2 ^ g.length)
    rw [Bool.eq_iff_iff, decide_eq_true_iff, setB_iff]
    exact ⟨fun ⟨m, e, h⟩ => by rw [show x = m from by omega]; exact h, fun h => ⟨x, rfl, h⟩⟩
  rw [HS.out] at HC
  obtain ⟨p, hp⟩ : ∃ p, p = 2 ^ g.length := ⟨_, rfl⟩
  rw [← hp] at HC ⊢
  obtain ⟨r, hr⟩ : ∃ r : Res, r = if x < p then some (okS, g, x) else none := ⟨_, rfl⟩
  rw [← hr]
  have HRR := Lib.hid hr
  have HP := Lib.hid hp
  obtain ⟨s, hs⟩ : ∃ s, s = decide (x < p) := ⟨_, rfl⟩
  rw [← hs] at HC
  have HSS := Lib.hid hs
  have HL := Lib.hid hl
  clear h1 h3 hf hq hn hkb hp hl HR HS hs hr
  go_enter Tryz.func82, Tryz.ntmps82
  go_wp2
  go_region_with (first
    | (go_at_call 60; refine HC.out.mono ?_; rintro e w1 ⟨rfl, rfl⟩)
    | (go_at_call 83; refine (become_c b _ _ x s _ (H1.out.ext (Ext.refl w).drew)).mono ?_; rintro e w2 ⟨rfl, d2, u2⟩; have D2 := Lib.hid d2; have U2 := Lib.hid ((Upd.of_ext (b := b) (Ext.refl w).drew).trans u2); clear d2 u2))
  all_goals
    go_wp2
    go_ret2
    cases s
    · have h := HSS.out
      rw [HRR.out, if_neg (of_decide_eq_false h.symm)]
      exact ⟨⟨_, rfl⟩, DeskG.code HK.out H3.out U2.out D2.out HF.out, U2.out⟩
    · have h := of_decide_eq_true HSS.out.symm
      rw [HRR.out, if_pos h]
      rw [HP.out] at h
      exact ⟨rfl, DeskG.code HK.out H3.out U2.out D2.out ⟨HF.out.gr, h⟩, U2.out⟩
end Go.Proofs.YtkmfmhckpfomeaaGreatDoor

/- What the commands do, the program's side: marks, play. No condition. -/
namespace Go.Proofs.YtkmfmhckpfomeaaGreatDoor
open Go.RowKit
open BigFrame
attribute [local go_sem] Oper.semAt_some

set_option maxRecDepth 100000 in
set_option maxHeartbeats 4000000 in
/-- marks -/
theorem cmd9_c (b : Nat) (n : Value) (g : List Int) (c x y : Nat) (w : World) (hw : Wd w) (hd : DeskG w b g c) :
    Calls Tryz.prog 91 #[.pointer (some ⟨b, 0, none⟩), n] w (Done w b g c (cmdR 9 g c x y)) := by
  have HD := Lib.hid hd
  obtain ⟨⟨k, m, h1, hkb, h3⟩, hf⟩ := hd
  have hl := hf.gr.le
  have hc := hf.c_le
  have c0 := (h1.ext (Ext.refl w).drew).graph
  have c1 := (h1.ext (Ext.refl w).drew).code
  have HR : Hid (cmdR 9 g c x y = some (saidB ((List.range g.length).map (markN g c)), g, c)) := rfl
  rw [HR.out]
  have HC := Lib.hid (codeMarksI_c (.slice (some ⟨k, 0, none⟩) g.length m) g c w.drew (h3.ext (Ext.refl _).drew) (by omega))
  have hcm : codeMarks g c = (intsOf ((List.range g.length).map (markN g c)), true) := by
    unfold codeMarks fits
    rw [graphIn_iff.2 hf.gr, setB_iff.2 ⟨c, rfl, hf.lt⟩]
    show (marksTo g c g.length, true) = _
    unfold marksTo intsOf
    rw [List.map_map]
    rfl
  rw [hcm] at HC
  have h9 : ∀ z ∈ (List.range g.length).map (markN g c), z ≤ 1048576 := fun z hz => by
    obtain ⟨i, -, rfl⟩ := List.mem_map.1 hz
    exact Nat.le_trans (markN_le hc g i) (by omega)
  have h10 : ((List.range g.length).map (markN g c)).length ≤ 4096 := by rw [List.length_map, List.length_range]; omega
  obtain ⟨ns, hns⟩ : ∃ ns, ns = (List.range g.length).map (markN g c) := ⟨_, rfl⟩
  rw [← hns] at HC h9 h10 ⊢
  have HN := Lib.hid (fun (v : Value) (w' : World) (hx : Ext w w') (hv : Rd w' v (intsOf ns)) => list_c v ns true w' (hw.ext hx) hv h9 h10)
  simp only [listV] at HC
  clear h1 h3 hf hkb hl hc HR hcm h9 h10 hns hw
  go_enter Tryz.func91, Tryz.ntmps91
  go_wp2
  go_region_with (first
    | (go_at_call 92; refine HC.out.mono ?_; rintro e w1 ⟨v1, rfl, o1, x1⟩; have X1 := Lib.hid ((Ext.refl w).drew.trans x1); have O1 := Lib.hid o1; clear x1 o1)
    | (go_at_call 88; refine (HN.out _ _ X1.out O1.out.rd).mono ?_; rintro e w2 ⟨rfl, x2⟩; have X2 := Lib.hid (X1.out.trans x2); clear x2))
  all_goals
    go_wp2
    go_ret2
    exact ⟨rfl, HD.out.ext X2.out, Upd.of_ext X2.out⟩
set_option maxRecDepth 100000 in
set_option maxHeartbeats 4000000 in
/-- play -/
theorem cmd15_c (b : Nat) (n : Value) (g : List Int) (c x y : Nat) (w : World) (hw : Wd w) (hd : DeskG w b g c) (hn : Rd w n (intsOf [x])) :
    Calls Tryz.prog 104 #[.pointer (some ⟨b, 0, none⟩), n] w (Done w b g c (cmdR 15 g c x y)) := by
  have HD := Lib.hid hd
  obtain ⟨⟨k, m, h1, hkb, h3⟩, hf⟩ := hd
  obtain ⟨q, o, m2, rfl, hq⟩ := arg_one hn
  have hl := hf.gr.le
  have c2 := hq _ (Ext.refl w).drew
  have c0 := (h1.ext (Ext.refl w).drew).graph
  have HR : Hid (cmdR 15 g c x y = if canPlay g x then some (saidB (play g x 99 (2 ^ g.length - 1)), g, c) else none) := rfl
  have HC := Lib.hid (askPlayI_c (.slice (some ⟨k, 0, none⟩) g.length m) g x w.drew (h3.ext (Ext.refl _).drew) (by omega))
  obtain ⟨ns, s, h8, h9, h10, h11⟩ : ∃ ns s, askPlay g x = (intsOf ns, s) ∧ (∀ z ∈ ns, z ≤ 1048576) ∧ ns.length ≤ 4096 ∧ cmdR 15 g c x y = if s then some (saidB ns, g, c) else none := by
    rw [HR.out]
    cases hcp : canPlay g x
    · exact ⟨[], false, by unfold askPlay; rw [hcp]; rfl, fun z h => by (cases h), Nat.zero_le _, rfl⟩
    · have hp := play_small hl x 99 (2 ^ g.length - 1)
      exact ⟨play g x 99 (2 ^ g.length - 1), true, by unfold askPlay; rw [hcp]; rfl, fun z h => Nat.le_trans (hp.2 z h) (by omega), Nat.le_trans hp.1 (by omega), rfl⟩
  rw [h8] at HC
  obtain ⟨r, hr⟩ : ∃ r : Res, r = cmdR 15 g c x y := ⟨_, rfl⟩
  rw [← hr] at h11 ⊢
  have HRR := Lib.hid h11
  have HN := Lib.hid (fun (v : Value) (w' : World) (hx : Ext w w') (hv : Rd w' v (intsOf ns)) => list_c v ns s w' (hw.ext hx) hv h9 h10)
  simp only [listV] at HC
  clear h1 h3 hf hkb hl HR h8 h9 h10 h11 hr hw hn hq
  go_enter Tryz.func104, Tryz.ntmps104
  go_wp2
  go_region_with (first
    | (go_at_call 105; refine HC.out.mono ?_; rintro e w1 ⟨v1, rfl, o1, x1⟩; have X1 := Lib.hid ((Ext.refl w).drew.trans x1); have O1 := Lib.hid o1; clear x1 o1)
    | (go_at_call 88; refine (HN.out _ _ X1.out O1.out.rd).mono ?_; rintro e w2 ⟨rfl, x2⟩; have X2 := Lib.hid (X1.out.trans x2); clear x2))
  all_goals
    go_wp2
    go_ret2
    rw [HRR.out]
    exact Done.read HD.out rfl X2.out
end Go.Proofs.YtkmfmhckpfomeaaGreatDoor

/- The pool of the balls of a set: the program computes the plain list. The condition: the list has at most 2^20 numbers. -/
namespace Go.Proofs.YtkmfmhckpfomeaaGreatDoor
open Go.RowKit
open BigFrame
attribute [local go_sem] Oper.semAt_some

set_option maxRecDepth 100000 in
set_option maxHeartbeats 1000000 in
theorem poolBallsI_c (v : Value) (g : List Int) (code : Int) (w : World) (hv : Rd w v g) (hm : g.length ≤ 1048576) :
    Calls Tryz.prog 107 #[v, .int .i64 code] w fun e w' => ∃ v, e = .returned (listV v (poolBalls g code).2) ∧ Own w' w.heap.size v (poolBalls g code).1 ∧ Ext w w' := by
  obtain ⟨a, c, rfl⟩ := hv.form
  obtain ⟨W, hW⟩ : ∃ W, W = w.alloc (.cells #[.slice a g.length c] 29) := ⟨_, rfl⟩
  have hx0 : Ext w W := by rw [hW]; exact (Ext.refl _).alloc _
  have v0 : Var W w.heap.size (.slice a g.length c) := by rw [hW]; exact Var.new _ _ _
  have HW := Lib.hid hW; have HX0 := Lib.hid hx0; have HV := Lib.hid (hv.ext hx0); have V0 := Lib.hid v0
  have HM := Lib.hid hm
  have c0 := v0.cell
  rw [hW] at c0
  clear hv hW hx0 v0
  refine calls_marks Tryz.func107 rfl ?_
  simp only [Tryz.ntmps107, List.size_toArray, List.length_cons, List.length_nil, Nat.reduceAdd, Nat.reduceSub, Array.replicate_succ, Array.replicate_zero, List.push_toArray, List.append_toArray, List.nil_append, List.cons_append]
  cases h0 : fits g code
  · rw [show poolBalls g code = ([], false) from by unfold poolBalls; rw [h0]; rfl]
    go_wp2_with fail
    rw [← HW.out]
    refine (codeFits_c _ _ _ _ HV.out HM.out).mono ?_
    rintro e w1 ⟨rfl, x1⟩
    have X1 := Lib.hid x1; clear x1 c0
    go_wp2
    exact leave_list (xs := []) rfl rfl rfl (Marks.nil _ _) (Own.nil _ _) (HX0.out.trans X1.out) rfl
  · obtain ⟨s, rfl, hG, hsl⟩ := fits_iff.1 h0
    have hl := hG.le
    have HG := Lib.hid hG; clear hG
    have hs4 : s ≤ 4095 := by have := pow_le_12 hl; omega
    rw [show poolBalls g s = (pickTo g s g.length, true) from by unfold poolBalls; rw [h0]; rfl]
    go_wp2_with fail
    rw [← HW.out]
    refine (codeFits_c _ _ _ _ HV.out HM.out).mono ?_
    rintro e w1 ⟨rfl, x1⟩
    have X1 := Lib.hid x1; clear x1 c0
    go_wp2_with fail
    refine (nodes_c _ _).mono ?_
    rintro e w' ⟨rfl, rfl⟩
    obtain ⟨W2, hW2, hx2, hsz2, d0, d1, e0, e1⟩ := two_new w1 (.slice none 0 0) (.int .i64 s) 29 3
    go_wp2
    rw [← hW2]
    have HX2 := Lib.hid hx2
    have l2 : w1.heap.size + 2 ≤ W2.heap.size := by omega
    have HVO : Hid (Var W2 w1.heap.size (.slice none 0 0)) := ⟨d0, e0, by omega⟩
    have HVS : Hid (Var W2 (w1.heap.size + 1) (.int .i64 s)) := ⟨d1, e1, by omega⟩
    clear hx2 d0 d1 e0 e1 hW2 hsz2
    refine wp_range (nodes_iter (w1.heap.size + 1) s g.length hsl (by omega)) rfl nodes_enters rfl
      (fun k W' => ∃ o, Own W' W2.heap.size o (pickTo g s k) ∧ Var W' w1.heap.size o ∧ Var W' (w1.heap.size + 1) (.int .i64 s) ∧ Ext w1 W' ∧ W2.heap.size ≤ W'.heap.size)
      (fun _ _ => False)
      ?hI ?hIx ?hKi ?h0 ?hskip ?hround ?hdone ?hstop
    case hI =>
      rintro j W' W'' hB ⟨o, h1, h2, h3, h4, h5⟩
      exact ⟨o, h1.book hB, h2.book hB (by omega), h3.book hB (by omega), h4.book (by omega) hB, Nat.le_trans h5 hB.size⟩
    case hIx => exact fun _ _ _ _ h => h
    case hKi =>
      rintro j W' ⟨o, _, _, h3, _⟩
      exact h3.cell
    case h0 => exact ⟨_, Own.nil _ _, HVO.out, HVS.out, HX2.out, Nat.le_refl _⟩
    case hskip =>
      rintro j W' hj hp ⟨o, h1, h2⟩
      exact ⟨o, by rw [pickTo_skip hp]; exact h1, h2⟩
    case hround =>
      rintro l j W' hj hp ⟨o, h1, h2, h3, h4, h5⟩ hsz
      gi_wp2
      refine ⟨KeepsFrom.refl _ _, fun W'' hB => ?_⟩
      have O1 : Hid (Own W'' W2.heap.size o (pickTo g s j)) := h1.book hB
      have V1 : Hid (Var W'' w1.heap.size o) := h2.book hB (by omega)
      have V2 : Hid (Var W'' (w1.heap.size + 1) (.int .i64 s)) := h3.book hB (by omega)
      have X4 : Hid (Ext w1 W'') := h4.book (by omega) hB
      have l5 : W2.heap.size ≤ W''.heap.size := Nat.le_trans h5 hB.size
      have HP := Lib.hid hp
      have HLn := Lib.hid (pickTo_length g s j)
      clear h1 h2 h3 h4 h5 hB hp hsz
      have VG := Lib.hid (V0.out.ext (X1.out.trans X4.out))
      have HB := Lib.hid fun w => ball_c (.slice a g.length c) g j w
      have c1 : W''.drew.cell? ⟨w1.heap.size, 0, none⟩ = some o := V1.out.cell
      have c2 : W''.drew.cell? ⟨w.heap.size, 0, none⟩ = some (.slice a g.length c) := VG.out.cell
      gi_wp2
      refine wpIn_region_plain (by kernel_rfl) (by kernel_rfl) (by rintro ⟨a, w, h⟩; exact h) ?_
      refine wpAny_take (i := 2) (v := .int .i64 (j : Nat)) rfl (by kernel_rfl) (by kernel_rfl) (by kernel_rfl) (fun _ _ _ h => h) (Or.inl ⟨by rfl, ?_⟩) ?_
      · intro w; go_simp
      have HA : Hid (∀ w5, Ext W''.drew w5 → ∀ v' w3, Own w3 W2.heap.size v' (pickTo g s j ++ [((ballN g j : Nat) : Int)]) → (w5.alloc (.cells #[.int .i64 (ballN g j : Nat)] 3)).grownBy w3 o.ownBlock →
          (∃ gg cap, v' = .slice (some ⟨gg, 0, none⟩) ((pickTo g s j).length + 1) cap) ∧ Var w3 w1.heap.size o ∧
          (KeepsFrom W2.heap.size W'' (w3.setCell ⟨w1.heap.size, 0, none⟩ v') ∧ ∃ o, Own (w3.setCell ⟨w1.heap.size, 0, none⟩ v') W2.heap.size o (pickTo g s (j + 1)) ∧ Var (w3.setCell ⟨w1.heap.size, 0, none⟩ v') w1.heap.size o ∧ Var (w3.setCell ⟨w1.heap.size, 0, none⟩ v') (w1.heap.size + 1) (.int .i64 s) ∧ Ext w1 (w3.setCell ⟨w1.heap.size, 0, none⟩ v') ∧ W2.heap.size ≤ (w3.setCell ⟨w1.heap.size, 0, none⟩ v').heap.size)) := by
        intro w5 x5 v' w3 ho3 hg3
        have x6 : Ext W'' w5 := Ext.trans (Ext.refl W'').drew x5
        have oo := O1.out.ext x6
        have nb : ∀ b, o.ownBlock = some b → W2.heap.size ≤ b := fun b hb => (oo.lt b hb).1
        have xa : Ext w5 (w5.alloc (.cells #[.int .i64 (ballN g j : Nat)] 3)) := (Ext.refl _).alloc _
        have vv : Var w3 w1.heap.size o := ((V1.out.ext x6).ext xa).grown hg3 (fun e => by have := nb _ e.symm; omega)
        have vs : Var w3 (w1.heap.size + 1) (.int .i64 s) := ((V2.out.ext x6).ext xa).grown hg3 (fun e => by have := nb _ e.symm; omega)
        have hnb : v'.ownBlock ≠ some w1.heap.size := fun e => by have := (ho3.lt _ e).1; omega
        have sz : W2.heap.size ≤ w3.heap.size := by have h1 := hg3.size; have h2 := x6.size; simp at h1; omega
        refine ⟨?_, vv, ?_, v', ?_, vv.set v', vs.other (by omega) v', ?_, by simpa using sz⟩
        · rcases ho3.get with ⟨_, h⟩ | ⟨gg, cap, h, _⟩
          · simp at h
          · exact ⟨gg, cap, by rw [h]; simp⟩
        · refine ((KeepsFrom.of_ext (x6.trans xa)).trans ((KeepsOthers.of_grownBy hg3 fun k u ek hk => ?_).from _)).trans (KeepsFrom.setCell' _ _ _ _)
          rcases (oo.alloc (.cells #[.int .i64 (ballN g j : Nat)] 3)).2 with ⟨h, _⟩ | ⟨gg, cap, cur, h, _, hgb, _⟩
          · rw [h] at ek; simp [Value.ownBlock] at ek
          · rw [h] at ek
            obtain rfl : gg = k := by simpa [Value.ownBlock] using ek
            rw [hgb] at hk; cases hk; rfl
        · rw [pickTo_next HP.out]
          exact ho3.kept (grownBy_setCell' w3 w1.heap.size v') (.inr hnb)
        · exact (((X4.out.trans x6).trans xa).grown hg3 (fun k hk => by have := nb k hk; omega)).setCell (Nat.le_refl _) _
      refine wpAny_ready (rs := [0, 1]) (by kernel_rfl) (by simp) ?_
      refine AllReady.cons rfl (fun K hK => ?_) ?_
      · go_simp
        refine hK _ _ ?_
        clear hK K
        refine wpAny_ready (rs := [1]) (by kernel_rfl) (by simp) ?_
        refine AllReady.cons rfl (fun K hK => ?_) ?_
        · go_simp
          refine hK _ _ ?_
          clear hK K
          refine wpAny_ready (rs := [3]) (by kernel_rfl) (by simp) ?_
          refine AllReady.cons rfl (fun K hK => ?_) ?_
          · go_simp
            go_at_call 127
            refine (HB.out _ (HV.out.ext ((X1.out.trans X4.out).drew)) HG.out hj).mono ?_
            rintro e w5 ⟨rfl, x5⟩
            have X5 := Lib.hid x5
            have c3 := (Ext.cell x5 (x := w1.heap.size) (o := 0) V1.out.lt).trans c1
            have c4 := (Ext.cell x5 (x := w.heap.size) (o := 0) VG.out.lt).trans c2
            have c5 := (Ext.cell (x5.alloc (.cells #[.int .i64 (ballN g j : Nat)] 3)) (x := w1.heap.size) (o := 0) V1.out.lt).trans c1
            clear x5
            refine hK _ _ ?_
            clear hK K
            refine wpAny_ready (rs := [4]) (by kernel_rfl) (by simp) ?_
            refine AllReady.cons rfl (fun K hK => ?_) ?_
            · go_simp
              refine hK _ _ ?_
              clear hK K
              refine wpAny_ready (rs := [5]) (by kernel_rfl) (by simp) ?_
              refine AllReady.cons rfl (fun K hK => ?_) ?_
              · refine step_append_int rfl _ _ rfl W2.heap.size o (pickTo g s j) rfl ((O1.out.ext (Ext.trans (Ext.refl W'').drew X5.out)).alloc _) w5.heap.size (ballN g j : Nat) rfl (one_cell _ _ _) (by have := HLn.out; omega) (by have h := X5.out.size; have h2 : W''.heap.size ≤ w5.heap.size := h; simp; omega) ?_
                intro v' w3 ho3 hg3 hn3
                obtain ⟨⟨gg, cap, rfl⟩, d1, d2⟩ := HA.out _ X5.out _ _ ho3 hg3
                obtain ⟨d3, d4, -⟩ := d1
                have D2 := Lib.hid d2
                clear ho3 hg3 hn3 d2
                refine hK _ _ ?_
                clear hK K
                refine wpAny_ready (rs := [6]) (by kernel_rfl) (by simp) ?_
                refine AllReady.cons rfl (fun K hK => ?_) ?_
                · go_simp
                  refine hK _ _ ?_
                  clear hK K
                  refine wpAny_done (by kernel_rfl) ?_ _
                  exact D2.out
                exact AllReady.nil
              exact AllReady.nil
            exact AllReady.nil
          exact AllReady.nil
        exact AllReady.nil
      refine AllReady.cons rfl (fun K hK => ?_) ?_
      · go_simp
        refine hK _ _ ?_
        clear hK K
        refine wpAny_ready (rs := [0, 3]) (by kernel_rfl) (by simp) ?_
        refine AllReady.cons rfl (fun K hK => ?_) ?_
        · go_simp
          refine hK _ _ ?_
          clear hK K
          refine wpAny_ready (rs := [3]) (by kernel_rfl) (by simp) ?_
          refine AllReady.cons rfl (fun K hK => ?_) ?_
          · go_simp
            go_at_call 127
            refine (HB.out _ (HV.out.ext ((X1.out.trans X4.out).drew)) HG.out hj).mono ?_
            rintro e w5 ⟨rfl, x5⟩
            have X5 := Lib.hid x5
            have c3 := (Ext.cell x5 (x := w1.heap.size) (o := 0) V1.out.lt).trans c1
            have c4 := (Ext.cell x5 (x := w.heap.size) (o := 0) VG.out.lt).trans c2
            have c5 := (Ext.cell (x5.alloc (.cells #[.int .i64 (ballN g j : Nat)] 3)) (x := w1.heap.size) (o := 0) V1.out.lt).trans c1
            clear x5
            refine hK _ _ ?_
            clear hK K
            refine wpAny_ready (rs := [4]) (by kernel_rfl) (by simp) ?_
            refine AllReady.cons rfl (fun K hK => ?_) ?_
            · go_simp
              refine hK _ _ ?_
              clear hK K
              refine wpAny_ready (rs := [5]) (by kernel_rfl) (by simp) ?_
              refine AllReady.cons rfl (fun K hK => ?_) ?_
              · refine step_append_int rfl _ _ rfl W2.heap.size o (pickTo g s j) rfl ((O1.out.ext (Ext.trans (Ext.refl W'').drew X5.out)).alloc _) w5.heap.size (ballN g j : Nat) rfl (one_cell _ _ _) (by have := HLn.out; omega) (by have h := X5.out.size; have h2 : W''.heap.size ≤ w5.heap.size := h; simp; omega) ?_
                intro v' w3 ho3 hg3 hn3
                obtain ⟨⟨gg, cap, rfl⟩, d1, d2⟩ := HA.out _ X5.out _ _ ho3 hg3
                obtain ⟨d3, d4, -⟩ := d1
                have D2 := Lib.hid d2
                clear ho3 hg3 hn3 d2
                refine hK _ _ ?_
                clear hK K
                refine wpAny_ready (rs := [6]) (by kernel_rfl) (by simp) ?_
                refine AllReady.cons rfl (fun K hK => ?_) ?_
                · go_simp
                  refine hK _ _ ?_
                  clear hK K
                  refine wpAny_done (by kernel_rfl) ?_ _
                  exact D2.out
                exact AllReady.nil
              exact AllReady.nil
            exact AllReady.nil
          exact AllReady.nil
        refine AllReady.cons rfl (fun K hK => ?_) ?_
        · go_simp
          go_at_call 127
          refine (HB.out _ (HV.out.ext ((X1.out.trans X4.out).drew)) HG.out hj).mono ?_
          rintro e w5 ⟨rfl, x5⟩
          have X5 := Lib.hid x5
          have c3 := (Ext.cell x5 (x := w1.heap.size) (o := 0) V1.out.lt).trans c1
          have c4 := (Ext.cell x5 (x := w.heap.size) (o := 0) VG.out.lt).trans c2
          have c5 := (Ext.cell (x5.alloc (.cells #[.int .i64 (ballN g j : Nat)] 3)) (x := w1.heap.size) (o := 0) V1.out.lt).trans c1
          clear x5
          refine hK _ _ ?_
          clear hK K
          refine wpAny_ready (rs := [0, 4]) (by kernel_rfl) (by simp) ?_
          refine AllReady.cons rfl (fun K hK => ?_) ?_
          · go_simp
            refine hK _ _ ?_
            clear hK K
            refine wpAny_ready (rs := [4]) (by kernel_rfl) (by simp) ?_
            refine AllReady.cons rfl (fun K hK => ?_) ?_
            · go_simp
              refine hK _ _ ?_
              clear hK K
              refine wpAny_ready (rs := [5]) (by kernel_rfl) (by simp) ?_
              refine AllReady.cons rfl (fun K hK => ?_) ?_
              · refine step_append_int rfl _ _ rfl W2.heap.size o (pickTo g s j) rfl ((O1.out.ext (Ext.trans (Ext.refl W'').drew X5.out)).alloc _) w5.heap.size (ballN g j : Nat) rfl (one_cell _ _ _) (by have := HLn.out; omega) (by have h := X5.out.size; have h2 : W''.heap.size ≤ w5.heap.size := h; simp; omega) ?_
                intro v' w3 ho3 hg3 hn3
                obtain ⟨⟨gg, cap, rfl⟩, d1, d2⟩ := HA.out _ X5.out _ _ ho3 hg3
                obtain ⟨d3, d4, -⟩ := d1
                have D2 := Lib.hid d2
                clear ho3 hg3 hn3 d2
                refine hK _ _ ?_
                clear hK K
                refine wpAny_ready (rs := [6]) (by kernel_rfl) (by simp) ?_
                refine AllReady.cons rfl (fun K hK => ?_) ?_
                · go_simp
                  refine hK _ _ ?_
                  clear hK K
                  refine wpAny_done (by kernel_rfl) ?_ _
                  exact D2.out
                exact AllReady.nil
              exact AllReady.nil
            exact AllReady.nil
          refine AllReady.cons rfl (fun K hK => ?_) ?_
          · go_simp
            refine hK _ _ ?_
            clear hK K
            refine wpAny_ready (rs := [0]) (by kernel_rfl) (by simp) ?_
            refine AllReady.cons rfl (fun K hK => ?_) ?_
            · go_simp
              refine hK _ _ ?_
              clear hK K
              refine wpAny_ready (rs := [5]) (by kernel_rfl) (by simp) ?_
              refine AllReady.cons rfl (fun K hK => ?_) ?_
              · refine step_append_int rfl _ _ rfl W2.heap.size o (pickTo g s j) rfl ((O1.out.ext (Ext.trans (Ext.refl W'').drew X5.out)).alloc _) w5.heap.size (ballN g j : Nat) rfl (one_cell _ _ _) (by have := HLn.out; omega) (by have h := X5.out.size; have h2 : W''.heap.size ≤ w5.heap.size := h; simp; omega) ?_
                intro v' w3 ho3 hg3 hn3
                obtain ⟨⟨gg, cap, rfl⟩, d1, d2⟩ := HA.out _ X5.out _ _ ho3 hg3
                obtain ⟨d3, d4, -⟩ := d1
                have D2 := Lib.hid d2
                clear ho3 hg3 hn3 d2
                refine hK _ _ ?_
                clear hK K
                refine wpAny_ready (rs := [6]) (by kernel_rfl) (by simp) ?_
                refine AllReady.cons rfl (fun K hK => ?_) ?_
                · go_simp
                  refine hK _ _ ?_
                  clear hK K
                  refine wpAny_done (by kernel_rfl) ?_ _
                  exact D2.out
                exact AllReady.nil
              exact AllReady.nil
            exact AllReady.nil
          exact AllReady.nil
        exact AllReady.nil
      exact AllReady.nil
    case hdone =>
      rintro D' W' hD ⟨o, h1, h2, h3, h4, h5⟩ hDD
      have H1 := Lib.hid h1; have H4 := Lib.hid h4; have HD := Lib.hid hDD
      have c6 := h2.cell
      clear h1 h2 h3 h4 h5 hDD
      have hle : w.heap.size ≤ W2.heap.size := ((HX0.out.trans X1.out).trans HX2.out).size
      go_wp2
      exact leave_list (v := o) (xs := pickTo g s g.length) rfl rfl rfl ((Marks.nil _ _).cons (n := W2.heap.size) (fun k hk => by obtain ⟨_, hk, _⟩ := hk; cases hk) hD (Nat.le_trans hle hD) HD.out) (H1.out.mono hle) ((HX0.out.trans X1.out).trans H4.out) rfl
    case hstop => exact fun _ _ _ _ h _ => h.elim
end Go.Proofs.YtkmfmhckpfomeaaGreatDoor

/- What the commands do, the program's side: tells. No condition. -/
namespace Go.Proofs.YtkmfmhckpfomeaaGreatDoor
open Go.RowKit
open BigFrame
attribute [local go_sem] Oper.semAt_some

set_option maxRecDepth 100000 in
set_option maxHeartbeats 4000000 in
/-- tells -/
theorem cmd16_c (b : Nat) (n : Value) (g : List Int) (c x y : Nat) (w : World) (hd : DeskG w b g c) (hn : Rd w n (intsOf [x])) :
    Calls Tryz.prog 106 #[.pointer (some ⟨b, 0, none⟩), n] w (Done w b g c (cmdR 16 g c x y)) := by
  have HD := Lib.hid hd
  obtain ⟨⟨k, m, h1, hkb, h3⟩, hf⟩ := hd
  obtain ⟨q, o, m2, rfl, hq⟩ := arg_one hn
  have hl := hf.gr.le
  have HL := Lib.hid hl
  have HQ := Lib.hid hq
  have H1 := Lib.hid h1
  have c0 := (h1.ext (Ext.refl w).drew).graph
  have c1 := (h1.ext (Ext.refl w).drew).code
  have HR : Hid (cmdR 16 g c x y = some (yesS (poolTells g.length (pickTo g c g.length) x), g, c)) := rfl
  rw [HR.out]
  have HC := Lib.hid (poolBallsI_c (.slice (some ⟨k, 0, none⟩) g.length m) g c w.drew (h3.ext (Ext.refl _).drew) (by omega))
  have hcm : poolBalls g c = (pickTo g c g.length, true) := by
    unfold poolBalls fits
    rw [graphIn_iff.2 hf.gr, setB_iff.2 ⟨c, rfl, hf.lt⟩]
    rfl
  rw [hcm] at HC
  have hpl := pickTo_length g c g.length
  obtain ⟨ps, hps⟩ : ∃ ps, ps = pickTo g c g.length := ⟨_, rfl⟩
  rw [← hps] at HC hpl ⊢
  have HPL := Lib.hid hpl
  obtain ⟨r, hr⟩ : ∃ r, r = poolTells g.length ps x := ⟨_, rfl⟩
  rw [← hr]
  have HRR := Lib.hid hr
  obtain ⟨z, hz⟩ : ∃ z : List UInt8, z = yesS r := ⟨_, rfl⟩
  rw [← hz]
  have HY : Hid (∀ w, Calls Tryz.prog 94 #[.bool r] w fun e w' => e = .returned (.tuple #[strV z, .bool true]) ∧ w' = w) := by rw [hz]; exact yesOr_c r
  simp only [listV] at HC
  clear h1 h3 hf hkb hl HR hcm hpl hps hr hz hn hq
  go_enter Tryz.func106, Tryz.ntmps106
  go_wp2
  go_region_with (go_at_call 107; refine HC.out.mono ?_; rintro e w1 ⟨v1, rfl, o1, x1⟩; have X1 := Lib.hid ((Ext.refl w).drew.trans x1); have O1 := Lib.hid o1; clear x1 o1)
  all_goals
    simp only [Act.put, List.getElem_toArray, List.getElem_cons_succ, List.getElem_cons_zero, List.setIfInBounds_toArray, List.set_cons_zero, List.set_cons_succ]
    have c2 := fun u => HQ.out _ (X1.out.trans (clip_ext w1 u))
    have c0 := fun u => (H1.out.ext (X1.out.trans (clip_ext w1 u))).graph
    have HT := Lib.hid (fun u => poolTellsI_c g.length v1 ps x (clip w1 u) (O1.out.rd.ext (clip_ext w1 u)) (by have := HPL.out; have := HL.out; omega))
    rw [← HRR.out] at HT
    go_wp2
    refine wp_region_ext (by kernel_rfl) (by kernel_rfl) ?_
    repeat (go_big_quiet_step (first
      | (go_at_call 108; exact Calls.clip_of (HT.out _))
      | (go_at_call 94; exact Calls.clip_of ((HY.out _).mono fun _ _ ⟨h1, h2⟩ => ⟨h1, h2 ▸ Ext.refl _⟩))))
    refine wpQuiet_nil ?_
    rintro _ ⟨u', rfl⟩
    go_wp2
    go_ret2
    exact ⟨rfl, HD.out.ext (X1.out.trans (clip_ext _ _)), Upd.of_ext (X1.out.trans (clip_ext _ _))⟩
end Go.Proofs.YtkmfmhckpfomeaaGreatDoor

/- What the commands do, the program's side: edge. No condition. -/
namespace Go.Proofs.YtkmfmhckpfomeaaGreatDoor
open Go.RowKit
open BigFrame
attribute [local go_sem] Oper.semAt_some

theorem isNode_nat {x n : Nat} : inB 0 (x : Int) ((n : Int) - 1) = decide (x < n) := by
  rw [Bool.eq_iff_iff, inB_iff, decide_eq_true_iff]
  omega
set_option maxRecDepth 100000 in
set_option maxHeartbeats 4000000 in
/-- edge -/
theorem cmd2_c (b : Nat) (n : Value) (g : List Int) (c x y : Nat) (w : World) (hd : DeskG w b g c) (hn : Rd w n (intsOf [x, y])) :
    Calls Tryz.prog 77 #[.pointer (some ⟨b, 0, none⟩), n] w (Done w b g c (cmdR 2 g c x y)) := by
  have HD := Lib.hid hd
  obtain ⟨⟨k, m, h1, hkb, h3⟩, hf⟩ := hd
  obtain ⟨q, o, m2, rfl, hq, hq2⟩ := arg_two hn
  have hl := hf.gr.le
  have HL := Lib.hid hl
  have HF := Lib.hid hf
  have HQ := Lib.hid hq
  have HQ2 := Lib.hid hq2
  have H1 := Lib.hid h1
  have HB := Lib.hid h1.lt
  have c0 := h1.graph
  have HR : Hid (cmdR 2 g c x y = if x < g.length ∧ y < g.length ∧ x ≠ y then some (okS, ofN (addE (natsOf g) (x, y)), c) else none) := rfl
  have HC := Lib.hid (clone_c k m g w h3 (by omega))
  obtain ⟨r, hr⟩ : ∃ r : Res, r = cmdR 2 g c x y := ⟨_, rfl⟩
  rw [← hr]
  have HRR := Lib.hid (hr.trans HR.out)
  clear h1 h3 hf hkb HR hr hn hq hq2
  go_enter Tryz.func77, Tryz.ntmps77
  go_wp2_with fail
  refine HC.out.mono ?_
  rintro e w1 ⟨v1, rfl, o1, x1⟩
  obtain ⟨z1, z2, rfl⟩ := o1.slice HF.out.gr.pos
  have X1 := Lib.hid x1; have O1 := Lib.hid o1
  have c2 := fun u => HQ.out _ (x1.trans (clip_ext w1 u))
  have c3 := fun u => HQ2.out _ (x1.trans (clip_ext w1 u))
  have HNX := Lib.hid (fun u => isNode_c (.slice (some ⟨z1, 0, none⟩) g.length z2) g x (clip w1 u) (o1.rd.ext (clip_ext w1 u)) (by omega))
  have HNY := Lib.hid (fun u => isNode_c (.slice (some ⟨z1, 0, none⟩) g.length z2) g y (clip w1 u) (o1.rd.ext (clip_ext w1 u)) (by omega))
  rw [isNode_nat] at HNX HNY
  have hst := HRR.out
  by_cases hx : x < g.length
  · rw [decide_eq_true hx] at HNX
    by_cases hy : y < g.length
    · rw [decide_eq_true hy] at HNY
      by_cases hxy : x = y
      · rw [if_neg (fun h => h.2.2 hxy)] at hst
        have t1 : ((x : Int) == (y : Int)) = true := by rw [hxy]; exact beq_self_eq_true _
        have HS := Lib.hid hst
        clear x1 o1 hl hst hx hy hxy
        go_wp2
        refine wp_region_ext (by kernel_rfl) (by kernel_rfl) ?_
        repeat (go_big_quiet_step (first
          | (go_at_call 79; exact Calls.clip_same (HNX.out _))
          | (go_at_call 79; exact Calls.clip_same (HNY.out _))))
        refine wpQuiet_nil ?_
        rintro _ ⟨u', rfl⟩
        go_wp2
        go_ret2
        rw [HS.out]
        exact ⟨⟨[], rfl⟩, HD.out.ext (X1.out.trans (clip_ext _ _)), Upd.of_ext (X1.out.trans (clip_ext _ _))⟩
      · rw [if_pos ⟨hx, hy, hxy⟩] at hst
        have t1 : ((x : Int) == (y : Int)) = false := beq_eq_false_iff_ne.2 (by omega)
        have HS := Lib.hid hst
        have HF2 : Hid (Fit (ofN (addE (natsOf g) (x, y))) c) := ⟨edge_isGraph HF.out.gr hx hy hxy, by rw [ofN_length, addE_length, natsOf_length]; exact HF.out.lt⟩
        have HJ := Lib.hid (fun (w2 : World) (h : Ext w1 w2) => join_c w.heap.size z1 z2 g.length (natsOf g) x y w2 (by rw [ofN_nats HF.out.gr]; exact o1.ext h) (natsOf_low HF.out.gr) hx hy hl)
        clear x1 o1 hl hst hx hy hxy
        go_wp2
        refine wp_region_ext (by kernel_rfl) (by kernel_rfl) ?_
        repeat (go_big_quiet_step (first
          | (go_at_call 79; exact Calls.clip_same (HNX.out _))
          | (go_at_call 79; exact Calls.clip_same (HNY.out _))))
        refine wpQuiet_nil ?_
        rintro _ ⟨u', rfl⟩
        obtain ⟨W, hW⟩ : ∃ W, W = clip w1 u' := ⟨_, rfl⟩
        rw [← hW]
        have HW1 : Hid (Ext w1 W) := by rw [hW]; exact clip_ext _ _
        have c4 := HQ.out _ ((X1.out.trans HW1.out).drew)
        have c5 := HQ2.out _ ((X1.out.trans HW1.out).drew)
        clear hW
        go_wp2
        go_region_with (go_at_call 38; refine (HJ.out _ HW1.out.drew).mono ?_; rintro e w2 ⟨rfl, o2, x2⟩; have O2 := Lib.hid o2; have X2 : Hid (Ext w w2) := Below.trans (Ext.drew (X1.out.trans HW1.out)) x2; clear x2 o2)
        all_goals
          go_wp2_with fail
          refine (redraw_c b _ _ _ _ c _ _ (H1.out.ext X2.out)).mono ?_
          rintro e w3 ⟨rfl, d2, u2⟩
          have D2 := Lib.hid d2
          have U1 := Lib.hid u2
          have U2 := Lib.hid ((Upd.of_ext (b := b) X2.out).trans u2)
          clear d2 u2
          go_wp2
          go_ret2
          rw [HS.out]
          exact ⟨rfl, DeskG.graph O2.out HB.out U1.out D2.out HF2.out, U2.out⟩
    · rw [decide_eq_false hy] at HNY
      rw [if_neg (fun h => hy h.2.1)] at hst
      have HS := Lib.hid hst
      clear x1 o1 hl hst hx hy
      go_wp2
      refine wp_region_ext (by kernel_rfl) (by kernel_rfl) ?_
      repeat (go_big_quiet_step (first
        | (go_at_call 79; exact Calls.clip_same (HNX.out _))
        | (go_at_call 79; exact Calls.clip_same (HNY.out _))))
      refine wpQuiet_nil ?_
      rintro _ ⟨u', rfl⟩
      go_wp2
      go_ret2
      rw [HS.out]
      exact ⟨⟨[], rfl⟩, HD.out.ext (X1.out.trans (clip_ext _ _)), Upd.of_ext (X1.out.trans (clip_ext _ _))⟩
  · rw [decide_eq_false hx] at HNX
    rw [if_neg (fun h => hx h.1)] at hst
    have HS := Lib.hid hst
    clear x1 o1 hl hst hx
    go_wp2
    refine wp_region_ext (by kernel_rfl) (by kernel_rfl) ?_
    repeat (go_big_quiet_step (first
      | (go_at_call 79; exact Calls.clip_same (HNX.out _))
      | (go_at_call 79; exact Calls.clip_same (HNY.out _))))
    refine wpQuiet_nil ?_
    rintro _ ⟨u', rfl⟩
    go_wp2
    go_ret2
    rw [HS.out]
    exact ⟨⟨[], rfl⟩, HD.out.ext (X1.out.trans (clip_ext _ _)), Upd.of_ext (X1.out.trans (clip_ext _ _))⟩
end Go.Proofs.YtkmfmhckpfomeaaGreatDoor

/- What each of the sixteen commands does, the program's side, in one form. The condition: the numbers that come in are at most 9999. -/
namespace Go.Proofs.YtkmfmhckpfomeaaGreatDoor
open Go.RowKit
open BigFrame
attribute [local go_sem] Oper.semAt_some

theorem itoa_nat (n : Nat) : Lib.itoa (n : Int) = Lib.decDigits n := by unfold Lib.itoa; rw [if_neg (by omega), Int.toNat_natCast]
theorem saidZ_c (z : Int) (k : Bool) (w : World) (hw : Wd w) (h0 : -1 ≤ z) (h1 : z ≤ 1048576) : Calls Tryz.prog 90 #[.int .i64 z, .bool k] w fun e w' => e = .returned (.tuple #[strV (Lib.itoa z), .bool k]) ∧ Ext w w' := by
  have h := itoa_c z w hw (by omega) (by omega)
  have H := Lib.hid h
  clear h hw h0 h1
  go_enter Tryz.func90, Tryz.ntmps90
  go_wp2_with fail
  refine H.out.mono ?_
  rintro e w1 ⟨rfl, x1⟩
  have X1 := Lib.hid x1; clear x1
  go_wp2
  go_ret2
  exact ⟨rfl, X1.out⟩
/-- alarm -/
theorem cmd13Z_c (b : Nat) (v n : Value) (g : List Int) (c y z : Nat) (w : World) (hw : Wd w) (hd : Desk w b v c) (hv : Rd w v g) (hm : g.length ≤ 1048576) (hn : Rd w n (intsOf [y, z])) (hz : z ≤ 1048576) (x : Int) (k : Bool) (hx : sensorFind g c y z = (x, k)) (hx0 : -1 ≤ x) (hx20 : x ≤ 1048576) :
    Calls Tryz.prog 100 #[.pointer (some ⟨b, 0, none⟩), n] w fun e w' => e = .returned (.tuple #[strV (Lib.itoa x), .bool k]) ∧ Ext w w' := by
  obtain ⟨a, m, rfl⟩ := hv.form
  have HC := Lib.hid (fun u => sensorFindI_c (.slice a g.length m) g c y z (clip w u) (by omega) (hv.ext (clip_ext w u)) hm)
  rw [hx] at HC
  have HS := Lib.hid (fun u => saidZ_c x k (clip w u) (hw.ext (clip_ext w u)) hx0 hx20)
  obtain ⟨q, o, m2, rfl, hq, hq2⟩ := arg_two hn
  have c2 := fun u => hq _ (clip_ext w u)
  have c3 := fun u => hq2 _ (clip_ext w u)
  have c0 := fun u => (hd.ext (clip_ext w u)).graph
  have c1 := fun u => (hd.ext (clip_ext w u)).code
  simp only [pairV] at HC
  clear hw hd hv hm hx hx20 hn hq hq2 hz hx0
  go_enter Tryz.func100, Tryz.ntmps100
  go_wp2
  refine wp_region_ext (by kernel_rfl) (by kernel_rfl) ?_
  repeat (go_big_quiet_step (first
    | (go_at_call 101; exact Calls.clip_of (HC.out _))
    | (go_at_call 90; exact Calls.clip_of (HS.out _))))
  refine wpQuiet_nil ?_
  rintro _ ⟨u', rfl⟩
  go_wp2
  go_ret2
  exact ⟨rfl, clip_ext _ _⟩
def cmdFn (i : Nat) : FuncId := [0, 75, 77, 80, 82, 84, 85, 87, 89, 91, 93, 96, 98, 100, 102, 104, 106].getD i 0
theorem oneR_eq {p : Int × Bool} {g : List Int} {c : Nat} {x : Int} {k : Bool} (h : p = (x, k)) : oneR p g c = if k then some (Lib.itoa x, g, c) else none := by subst h; rfl
theorem cmd_done (i : Nat) (h1 : 1 ≤ i) (h16 : i ≤ 16) (b : Nat) (n : Value) (g : List Int) (c : Nat) (ns : List Nat) (w : World) (hw : Wd w) (hd : DeskG w b g c) (hn : Rd w n (intsOf ns)) (hlen : ns.length = (cmdNum i).toNat) (hns : ∀ z ∈ ns, z ≤ 9999) :
    Calls Tryz.prog (cmdFn i) #[.pointer (some ⟨b, 0, none⟩), n] w (Done w b g c (cmdR i g c (ns.getD 0 0) (ns.getD 1 0))) := by
  obtain ⟨⟨k, m, hk1, hkb, h3⟩, hf⟩ := id hd
  have hl := hf.gr.le
  have hc := hf.c_le
  have one : ∀ {ns : List Nat}, ns.length = 1 → ∃ x, ns = [x] := fun {ns} h => by
    match ns, h with
    | [x], _ => exact ⟨x, rfl⟩
  have two : ∀ {ns : List Nat}, ns.length = 2 → ∃ x y, ns = [x, y] := fun {ns} h => by
    match ns, h with
    | [x, y], _ => exact ⟨x, y, rfl⟩
  have read : ∀ {f : FuncId} {t : List UInt8} {k : Bool} {r : Res}, r = (if k then some (t, g, c) else none) → (Calls Tryz.prog f #[.pointer (some ⟨b, 0, none⟩), n] w fun e w' => e = .returned (.tuple #[strV t, .bool k]) ∧ Ext w w') → Calls Tryz.prog f #[.pointer (some ⟨b, 0, none⟩), n] w (Done w b g c r) := fun hr h => by
    rw [hr]
    exact h.mono fun e w' ⟨he, hx⟩ => Done.read hd he hx
  have hcases : i = 1 ∨ i = 2 ∨ i = 3 ∨ i = 4 ∨ i = 5 ∨ i = 6 ∨ i = 7 ∨ i = 8 ∨ i = 9 ∨ i = 10 ∨ i = 11 ∨ i = 12 ∨ i = 13 ∨ i = 14 ∨ i = 15 ∨ i = 16 := by omega
  rcases hcases with rfl | rfl | rfl | rfl | rfl | rfl | rfl | rfl | rfl | rfl | rfl | rfl | rfl | rfl | rfl | rfl
  · obtain ⟨x, y, rfl⟩ := two hlen
    exact cmd1_c b n g c x y w hd hn
  · obtain ⟨x, y, rfl⟩ := two hlen
    exact cmd2_c b n g c x y w hd hn
  · exact cmd3_c b n g c _ _ w hd
  · obtain ⟨x, rfl⟩ := one hlen
    exact cmd4_c b n g c x 0 w hd hn
  · obtain ⟨x, rfl⟩ := one hlen
    exact cmd5_c b n g c x 0 w hd hn
  · obtain ⟨x, rfl⟩ := one hlen
    exact cmd6_c b n g c x 0 w hd hn
  · refine read (k := true) rfl (cmd7_c b _ n c (natsOf g) w hw hk1 (show Rd w _ (ofN (natsOf g)) from by rw [ofN_nats hf.gr]; exact h3) (fun z hz => Nat.le_trans (natsOf_le hf.gr z hz) (by omega)) (by rw [natsOf_length]; omega))
  · exact read (k := true) rfl (cmd8_c b _ n c w hw hk1 (by omega))
  · exact cmd9_c b n g c _ _ w hw hd
  · obtain ⟨x, rfl⟩ := one hlen
    exact read (k := true) rfl (cmd10_c b _ n g c x w hk1 h3 (by omega) hn)
  · obtain ⟨x, k', e, hx⟩ := treeRes_small g
    refine read (oneR_eq e) ?_
    rw [itoa_nat]
    exact cmd11_c b _ n g c w hw hk1 h3 (by omega) (fun j => by
      by_cases hj : j < g.length
      · have := hf.gr.row j hj
        have h2 := gN_le hf.gr j
        omega
      · rw [getI_out (by omega)]; omega) x k' e (by omega)
  · obtain ⟨x, k', e, hx⟩ := most_small g c
    refine read (oneR_eq e) ?_
    rw [itoa_nat]
    exact cmd12_c b _ n g c w hw hk1 h3 (by omega) x k' e (by omega)
  · obtain ⟨x, y, rfl⟩ := two hlen
    have hy := hns y (by simp)
    rcases find_small (g := g) c x y hl with e | ⟨z, k', e, hx⟩
    · exact read (oneR_eq e) (cmd13Z_c b _ n g c x y w hw hk1 h3 (by omega) hn (by omega) _ _ e (by omega) (by omega))
    · exact read (oneR_eq e) (cmd13Z_c b _ n g c x y w hw hk1 h3 (by omega) hn (by omega) _ _ e (by omega) (by omega))
  · obtain ⟨x, k', e, hx⟩ := askDepth_small g ((2 ^ g.length - 1 : Nat) : Int)
    refine read (oneR_eq e) ?_
    rw [itoa_nat]
    exact cmd14_c b _ n g c w hw hk1 h3 hl x k' e (by omega)
  · obtain ⟨x, rfl⟩ := one hlen
    exact cmd15_c b n g c x 0 w hw hd hn
  · obtain ⟨x, rfl⟩ := one hlen
    exact cmd16_c b n g c x 0 w hd hn
end Go.Proofs.YtkmfmhckpfomeaaGreatDoor
