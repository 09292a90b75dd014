/- What the walks of this seat rest on, one part: plain facts, and contracts of the functions that they reach. Each states its own condition. -/
import Derived.Test.YtkmfmhckpfomeaaGreatDoorB6
import Derived.Test.YtkmfmhckpfomeaaGreatDoorB5
import Derived.Test.YtkmfmhckpfomeaaGreatDoorB9
import Derived.Test.YtkmfmhckpfomeaaGreatDoorB14
set_option linter.all false
set_option linter.unusedSimpArgs false
set_option linter.unusedVariables false
/- The pool of the balls of a set: the reference and the program compute the same plain list. The condition: the list has at most 2^20 numbers. -/
namespace Go.Proofs.YtkmfmhckpfomeaaGreatDoor
open Go.RowKit
open BigFrame

def pickTo (g : List Int) (s k : Nat) : List Int := ((List.range k).filter fun i => s.testBit i).map fun i => ((ballN g i : Nat) : Int)
theorem pickTo_skip {g : List Int} {s k : Nat} (h : s.testBit k = false) : pickTo g s (k + 1) = pickTo g s k := by simp [pickTo, List.range_succ, h]
theorem pickTo_next {g : List Int} {s k : Nat} (h : s.testBit k = true) : pickTo g s (k + 1) = pickTo g s k ++ [((ballN g k : Nat) : Int)] := by simp [pickTo, List.range_succ, h]
theorem pickTo_length (g : List Int) (s k : Nat) : (pickTo g s k).length ≤ k := by
  unfold pickTo
  rw [List.length_map]
  exact Nat.le_trans (List.length_filter_le _ _) (by simp)
def poolBalls (g : List Int) (code : Int) : List Int × Bool := if fits g code then (pickTo g code.toNat g.length, true) else ([], false)

set_option maxRecDepth 100000 in
set_option maxHeartbeats 1000000 in
theorem poolBallsS_c (v : Value) (g : List Int) (code : Int) (w : World) (hv : Rd w v g) (hm : g.length ≤ 1048576) :
    Calls Tryz.prog 124 #[v, .int .i64 code] w fun e w' => ∃ v, e = .returned (listV v (poolBalls g code).2) ∧ Own w' w.heap.size v (poolBalls g code).1 ∧ Ext w w' := by
  obtain ⟨a, c, rfl⟩ := hv.form
  obtain ⟨W, hW⟩ : ∃ W, W = w.alloc (.cells #[] 3) := ⟨_, rfl⟩
  have ho0 : Own W w.heap.size (.slice (some ⟨w.heap.size, 0, none⟩) 0 0) [] := by rw [hW]; exact Own.lit w
  have hx0 : Ext w W := by rw [hW]; exact (Ext.refl _).alloc _
  have hs0 : w.heap.size < W.heap.size := by rw [hW]; simp
  have HW := Lib.hid hW; have HO0 := Lib.hid ho0; have HX0 := Lib.hid hx0; have HV := Lib.hid (hv.ext hx0)
  have HM := Lib.hid hm
  clear hv hW ho0 hx0
  cases h0 : graphIn g
  · rw [show poolBalls g code = ([], false) from by unfold poolBalls fits; rw [h0]; rfl]
    go_enter Tryz.func124, Tryz.ntmps124
    go_wp2_with fail
    rw [← HW.out]
    refine (graphInS_c _ _ _ HV.out HM.out).mono ?_
    rintro e w1 ⟨rfl, x1⟩
    have X1 := Lib.hid x1; clear x1
    go_wp2
    go_ret2
    exact ⟨_, rfl, HO0.out.ext X1.out, HX0.out.trans X1.out⟩
  · have hG := graphIn_iff.1 h0
    have hl := hG.le
    have HG := Lib.hid hG; clear hG
    cases hs : setB code g.length
    · rw [show poolBalls g code = ([], false) from by unfold poolBalls fits; rw [h0, hs]; rfl]
      go_enter Tryz.func124, Tryz.ntmps124
      go_wp2_with fail
      rw [← HW.out]
      refine (graphInS_c _ _ _ HV.out HM.out).mono ?_
      rintro e w1 ⟨rfl, x1⟩
      have X1 := Lib.hid x1; clear x1
      go_wp2_with (go_at_call 118; refine (l2Set_c _ g _ _ (HV.out.ext X1.out) (by omega)).mono ?_; rintro e w' ⟨rfl, rfl⟩)
      go_ret2
      exact ⟨_, rfl, HO0.out.ext X1.out, HX0.out.trans X1.out⟩
    · obtain ⟨s, rfl, hsl⟩ := setB_iff.1 hs
      have hs4 : s ≤ 4095 := by have := pow_le_12 hl; omega
      rw [show poolBalls g s = (pickTo g s g.length, true) from by unfold poolBalls fits; rw [h0, hs]; rfl]
      clear hsl
      go_enter Tryz.func124, Tryz.ntmps124
      go_wp2_with fail
      rw [← HW.out]
      refine (graphInS_c _ _ _ HV.out HM.out).mono ?_
      rintro e w1 ⟨rfl, x1⟩
      have X1 := Lib.hid x1; clear x1
      go_wp2_with (go_at_call 118; refine (l2Set_c _ g _ _ (HV.out.ext X1.out) (by omega)).mono ?_; rintro e w' ⟨rfl, rfl⟩)
      refine (l1Balls_c _ g _ (HV.out.ext X1.out) HG.out).mono ?_
      rintro e w2 ⟨vb, rfl, ob, x2⟩
      have hlt2 : w1.heap.size ≤ w2.heap.size := x2.size
      have hlt1 : W.heap.size ≤ w1.heap.size := X1.out.size
      have X2 := Lib.hid (X1.out.trans x2); clear x2
      rcases ob.get with ⟨rfl, hnil⟩ | ⟨gb, cb, rfl, hgb1, hgb2, hcb, hcells, -⟩
      · have h1 := congrArg List.length hnil
        rw [ballsTo_length, List.length_nil] at h1
        have h2 := HG.out.pos
        omega
      · rw [ballsTo_length] at hcb
        have HC : Hid (∀ i, i < g.length → w2.cell? ⟨gb, i, none⟩ = some (.int .i64 (ballN g i : Nat))) := fun i hi => by
          rw [hcells i (by rw [ballsTo_length]; exact hi), ballsTo_get _ _ _ hi]
        clear hcells ob
        rw [ballsTo_length]
        go_wp2
        go_loopw [6, 8] (fun o i wr => ∃ k : Nat, k ≤ g.length ∧ i = .int .i64 k ∧ Own wr w.heap.size o (pickTo g s k) ∧ Ext w wr ∧ Hid (∀ i, i < g.length → wr.cell? ⟨gb, i, none⟩ = some (.int .i64 (ballN g i : Nat))) ∧ Hid (o.ownBlock ≠ some gb) ∧ gb < wr.heap.size) (fun _ i _ => g.length - (intOf i).toNat)
        case atStart => exact ⟨0, Nat.zero_le _, rfl, HO0.out.ext X2.out, HX0.out.trans X2.out, HC, fun e => by simp [Value.ownBlock] at e; omega, hgb2⟩
        case round =>
          obtain ⟨k, hk, rfl, ho, hx, HC, HN, hgl⟩ := hrel
          have HO := Lib.hid ho; have HX := Lib.hid hx; clear ho hx
          by_cases hlt : k < g.length
          · have c1 := HC.out k hlt
            cases hb : s.testBit k
            · have HB := Lib.hid hb
              go_wp2_with (go_at_call 152; refine (l1Bit_c s k (by omega) (by omega) _).mono ?_; rintro e w' ⟨rfl, rfl⟩)
              go_roundw
              case rel => exact ⟨k + 1, by omega, by go_num, by rw [pickTo_skip HB.out]; exact HO.out, HX.out, HC, HN, hgl⟩
              case measure => simp [intOf]; omega
            · have HB := Lib.hid hb
              have HL := Lib.hid (pickTo_length g s k)
              go_wp2_with (first | (go_at_call 152; refine (l1Bit_c s k (by omega) (by omega) _).mono ?_; rintro e w' ⟨rfl, rfl⟩) | (at_builtin; refine wpList_append_int2 rfl _ _ rfl w.heap.size _ _ rfl (HO.out.alloc _) wr.heap.size _ rfl (one_cell _ _ _) (by have := HL.out; omega) (by simp; have := HX.out.size; omega) ?_; intro v' w3 ho3 hg3 hn3))
              have HX3 : Hid (Ext w w3) := (HO.out.alloc _).grew (HX.out.alloc _) hg3 (Nat.le_refl _)
              have HO3 : Hid (Own w3 w.heap.size v' (pickTo g s (k + 1))) := by rw [pickTo_next HB.out]; exact ho3
              have HC3 : Hid (∀ i, i < g.length → w3.cell? ⟨gb, i, none⟩ = some (.int .i64 (ballN g i : Nat))) := fun i hi => by
                rw [← HC.out i hi]
                unfold World.cell?
                rw [hg3.block gb (by simp; omega) (fun e => HN.out e.symm), Below.heap_alloc _ _ _ hgl]
              have HN3 : Hid (v'.ownBlock ≠ some gb) := fun e => by
                rcases hn3 gb e with h | h
                · exact HN.out h
                · simp at h; omega
              have hgl3 : gb < w3.heap.size := Nat.lt_of_lt_of_le (by simp; omega) hg3.size
              clear ho3 hg3 hn3
              go_wp2
              go_roundw
              case rel => exact ⟨k + 1, by omega, by go_num, HO3.out, HX3.out, HC3, HN3, hgl3⟩
              case measure => simp [intOf]; omega
          · obtain rfl : k = g.length := by omega
            go_wp2
            go_ret2
            exact ⟨_, rfl, HO.out, HX.out⟩
end Go.Proofs.YtkmfmhckpfomeaaGreatDoor

/- SensorFind: the reference and the program compute the same plain function. The condition: the list has at most 2^20 numbers. -/
namespace Go.Proofs.YtkmfmhckpfomeaaGreatDoor
open Go.RowKit
open BigFrame

def nearP (g : List Int) (s t al i : Nat) : Bool := decide (cnt (bxor (markN g s i) al) ≤ t)
def sensorFind (g : List Int) (s t al : Int) : Int × Bool :=
  if sensorIn g s t && decide (0 ≤ al) && (without al.toNat s.toNat == 0) then if cnt al.toNat ≤ t.toNat then (-1, true) else leastP (nearP g s.toNat t.toNat al.toNat) g.length else (0, false)
theorem sensorIn_iff {g : List Int} {s t : Int} (h : sensorIn g s t = true) : ∃ k y : Nat, s = k ∧ t = y ∧ IsGraph g ∧ k ≤ 4095 ∧ y ≤ 4 := by
  unfold sensorIn at h
  simp only [Bool.and_eq_true] at h
  obtain ⟨k, rfl, hG, hk⟩ := fits_iff.1 h.1.1
  have ht := inB_iff.1 h.1.2
  exact ⟨k, t.toNat, rfl, by omega, hG, by have := pow_le_12 hG.le; omega, by omega⟩
theorem sub_le {a b : Nat} (h : without a b = 0) : a ≤ b := by
  have e : a = band a b := by
    apply Nat.eq_of_testBit_eq
    intro i
    have h1 := congrArg (fun n => n.testBit i) h
    simp only [testBit_without, Nat.zero_testBit] at h1
    rw [testBit_band]
    cases ha : a.testBit i
    · rfl
    · rw [ha, Bool.true_and] at h1
      cases hb : b.testBit i
      · rw [hb] at h1; cases h1
      · rfl
  rw [e]; exact band_le _ _

set_option maxRecDepth 100000 in
set_option maxHeartbeats 2000000 in
theorem sensorFindS_c (v : Value) (g : List Int) (s t al : Int) (w : World) (hal : al < 9223372036854775808) (hv : Rd w v g) (hm : g.length ≤ 1048576) :
    Calls Tryz.prog 117 #[v, .int .i64 s, .int .i64 t, .int .i64 al] w fun e w' => e = .returned (pairV (sensorFind g s t al)) ∧ Ext w w' := by
  obtain ⟨a, c, rfl⟩ := hv.form
  have HV := Lib.hid hv; clear hv
  have HM := Lib.hid hm
  have HC := Lib.hid (sensorInS_c (.slice a g.length c) g s t w HV.out HM.out)
  cases h0 : sensorIn g s t
  · rw [show sensorFind g s t al = (0, false) from by unfold sensorFind; rw [h0]; rfl]
    go_enter Tryz.func117, Tryz.ntmps117
    go_wp2_with (go_at_call 157; refine HC.out.mono ?_; rintro e w1 ⟨rfl, x1⟩)
    go_ret2
    exact ⟨rfl, by assumption⟩
  · obtain ⟨k, y, rfl, rfl, hG, hk4, hy⟩ := sensorIn_iff h0
    have hl := hG.le
    have HG := Lib.hid hG; clear hG
    have H0 := Lib.hid h0
    by_cases hn : al < 0
    · rw [show sensorFind g k y al = (0, false) from by unfold sensorFind; rw [h0, decide_eq_false (by omega)]; rfl]
      go_enter Tryz.func117, Tryz.ntmps117
      go_wp2_with (go_at_call 157; refine HC.out.mono ?_; rintro e w1 ⟨rfl, x1⟩)
      go_ret2
      exact ⟨rfl, by assumption⟩
    · obtain ⟨A, rfl⟩ : ∃ A : Nat, al = A := ⟨al.toNat, by omega⟩
      have hA63 : A < 2 ^ 63 := by omega
      have e1 := bits_andNot A k (by omega) (by omega)
      by_cases hz : without A k = 0
      · have hA4 : A ≤ 4095 := Nat.le_trans (sub_le hz) hk4
        have HZ := Lib.hid hz
        have HE : Hid (sensorFind g k y A = if cnt A ≤ y then (-1, true) else leastP (nearP g k y A) g.length) := by
          unfold sensorFind Hid
          rw [h0, decide_eq_true (by omega)]
          simp [hz]
        have e1' : bits .andNot .i64 (A : Int) (k : Int) = 0 := by rw [e1, hz]; rfl
        have hA0 : ((A : Int) < 0) = False := by simp
        have hal' : (A : Int) ≤ 4095 := by omega
        clear e1 hz hA63 hn hal
        by_cases hc : cnt A ≤ y
        · rw [HE.out, if_pos hc]
          go_enter Tryz.func117, Tryz.ntmps117
          go_wp2_with fail
          refine HC.out.mono ?_
          rintro e w1 ⟨rfl, x1⟩
          have X1 := Lib.hid x1; clear x1
          go_wp2_with (go_at_call 156; refine (l1Count_c A (by omega) _).mono ?_; rintro e w' ⟨rfl, rfl⟩)
          go_ret2
          exact ⟨rfl, X1.out⟩
        · rw [HE.out, if_neg hc]
          go_enter Tryz.func117, Tryz.ntmps117
          go_wp2_with fail
          refine HC.out.mono ?_
          rintro e w1 ⟨rfl, x1⟩
          have X1 := Lib.hid x1; clear x1
          go_wp2_with (go_at_call 156; refine (l1Count_c A (by omega) _).mono ?_; rintro e w' ⟨rfl, rfl⟩)
          refine (l2Marks_c _ g k _ (HV.out.ext X1.out) HG.out hk4).mono ?_
          rintro e w2 ⟨vm, rfl, om, x2⟩
          have X2 := Lib.hid (X1.out.trans x2); clear x2
          obtain ⟨gm, cm, rfl⟩ := om.form' (marksTo_length g k g.length)
          have OM := Lib.hid om.rd; clear om
          go_wp2
          go_loop [11] (fun i => ∃ j : Nat, j ≤ g.length ∧ i = .int .i64 j ∧ Hid (∀ m, m < j → nearP g k y A m = false)) (fun i => g.length - (intOf i).toNat)
          case atStart => exact ⟨0, Nat.zero_le _, rfl, fun m hm => absurd hm (Nat.not_lt_zero m)⟩
          case round =>
            obtain ⟨j, hj, rfl, HJ⟩ := hrel
            by_cases hlt : j < g.length
            · obtain ⟨bb, o, rfl, -, -, hcc⟩ := OM.out.atI hlt
              have c1 := hcc _ (Ext.refl _)
              rw [show getI (marksTo g k g.length) j = ((markN g k j : Nat) : Int) from marksTo_get _ _ _ _ hlt] at c1
              clear hcc
              have m4 := markN_small HG.out hlt k
              have e2 := bits_xor (markN g k j) A (by omega) (by omega)
              have x4 := bxor_small m4 hA4
              by_cases hy2 : cnt (bxor (markN g k j) A) ≤ y
              · have HY : Hid (nearP g k y A j = true) := decide_eq_true hy2
                go_wp2_with (go_at_call 156; refine (l1Count_c _ (by omega) _).mono ?_; rintro e w' ⟨rfl, rfl⟩)
                go_ret2
                exact ⟨ret_pair' (leastP_some hlt HJ.out HY.out).symm, X2.out⟩
              · have HY : Hid (nearP g k y A j = false) := decide_eq_false hy2
                go_wp2_with (go_at_call 156; refine (l1Count_c _ (by omega) _).mono ?_; rintro e w' ⟨rfl, rfl⟩)
                go_round
                case rel => exact ⟨j + 1, by omega, by go_num, fun m hm => by
                  by_cases h : m = j
                  · subst h; exact HY.out
                  · exact HJ.out m (by omega)⟩
                case measure => simp [intOf]; omega
            · obtain rfl : j = g.length := by omega
              go_wp2
              go_ret2
              exact ⟨ret_pair' (leastP_none HJ.out).symm, X2.out⟩
      · have hz' : ((without A k : Nat) : Int) ≠ 0 := by omega
        have hz2 : (((without A k : Nat) : Int) != 0) = true := by simp; omega
        rw [show sensorFind g k y A = (0, false) from by unfold sensorFind; rw [h0, decide_eq_true (by omega)]; simp [hz]]
        clear hz
        go_enter Tryz.func117, Tryz.ntmps117
        go_wp2_with (go_at_call 157; refine HC.out.mono ?_; rintro e w1 ⟨rfl, x1⟩)
        go_ret2
        exact ⟨rfl, by assumption⟩

set_option maxRecDepth 100000 in
set_option maxHeartbeats 2000000 in
theorem sensorFindI_c (v : Value) (g : List Int) (s t al : Int) (w : World) (hal : al < 9223372036854775808) (hv : Rd w v g) (hm : g.length ≤ 1048576) :
    Calls Tryz.prog 101 #[v, .int .i64 s, .int .i64 t, .int .i64 al] w fun e w' => e = .returned (pairV (sensorFind g s t al)) ∧ Ext w w' := by
  obtain ⟨a, c, rfl⟩ := hv.form
  have HV := Lib.hid hv; clear hv
  have HM := Lib.hid hm
  have HC := Lib.hid (sensorInI_c (.slice a g.length c) g s t w HV.out HM.out)
  cases h0 : sensorIn g s t
  · rw [show sensorFind g s t al = (0, false) from by unfold sensorFind; rw [h0]; rfl]
    go_enter Tryz.func101, Tryz.ntmps101
    go_wp2_with (go_at_call 139; refine HC.out.mono ?_; rintro e w1 ⟨rfl, x1⟩)
    go_ret2
    exact ⟨rfl, by assumption⟩
  · obtain ⟨k, y, rfl, rfl, hG, hk4, hy⟩ := sensorIn_iff h0
    have hl := hG.le
    have HG := Lib.hid hG; clear hG
    have H0 := Lib.hid h0
    by_cases hn : al < 0
    · rw [show sensorFind g k y al = (0, false) from by unfold sensorFind; rw [h0, decide_eq_false (by omega)]; rfl]
      go_enter Tryz.func101, Tryz.ntmps101
      go_wp2_with (go_at_call 139; refine HC.out.mono ?_; rintro e w1 ⟨rfl, x1⟩)
      go_ret2
      exact ⟨rfl, by assumption⟩
    · obtain ⟨A, rfl⟩ : ∃ A : Nat, al = A := ⟨al.toNat, by omega⟩
      have hA63 : A < 2 ^ 63 := by omega
      have e1 := bits_andNot A k (by omega) (by omega)
      by_cases hz : without A k = 0
      · have hA4 : A ≤ 4095 := Nat.le_trans (sub_le hz) hk4
        have HZ := Lib.hid hz
        have HE : Hid (sensorFind g k y A = if cnt A ≤ y then (-1, true) else leastP (nearP g k y A) g.length) := by
          unfold sensorFind Hid
          rw [h0, decide_eq_true (by omega)]
          simp [hz]
        have e1' : bits .andNot .i64 (A : Int) (k : Int) = 0 := by rw [e1, hz]; rfl
        have hA0 : ((A : Int) < 0) = False := by simp
        have hal' : (A : Int) ≤ 4095 := by omega
        clear e1 hz hA63 hn hal
        by_cases hc : cnt A ≤ y
        · rw [HE.out, if_pos hc]
          go_enter Tryz.func101, Tryz.ntmps101
          go_wp2_with fail
          refine HC.out.mono ?_
          rintro e w1 ⟨rfl, x1⟩
          have X1 := Lib.hid x1; clear x1
          go_wp2_with (go_at_call 65; refine (sizeC A (by omega) _).mono ?_; rintro e w' ⟨rfl, rfl⟩)
          go_ret2
          exact ⟨rfl, X1.out⟩
        · rw [HE.out, if_neg hc]
          go_enter Tryz.func101, Tryz.ntmps101
          go_wp2_with fail
          refine HC.out.mono ?_
          rintro e w1 ⟨rfl, x1⟩
          have X1 := Lib.hid x1; clear x1
          go_wp2_with (go_at_call 65; refine (sizeC A (by omega) _).mono ?_; rintro e w' ⟨rfl, rfl⟩)
          refine (bookOf_c _ g _ (HV.out.ext X1.out) HG.out).mono ?_
          rintro e wb ⟨b, vb, vf, vs, rfl, -, hb, xb⟩
          have HB := Lib.hid hb; have XB := Lib.hid xb; clear hb xb
          go_wp2_with fail
          refine (marks_c b _ _ _ _ g k _ HB.out HG.out hk4).mono ?_
          rintro e w2 ⟨vm, rfl, om, x2'⟩
          have x2 := XB.out.trans x2'
          clear x2'
          have X2 := Lib.hid (X1.out.trans x2); clear x2
          obtain ⟨gm, cm, rfl⟩ := om.form' (marksTo_length g k g.length)
          have OM := Lib.hid om.rd; clear om
          go_wp2
          go_loop [36] (fun i => ∃ j : Nat, j ≤ g.length ∧ i = .int .i64 j ∧ Hid (∀ m, m < j → nearP g k y A m = false)) (fun i => g.length - (intOf i).toNat)
          case atStart => exact ⟨0, Nat.zero_le _, rfl, fun m hm => absurd hm (Nat.not_lt_zero m)⟩
          case round =>
            obtain ⟨j, hj, rfl, HJ⟩ := hrel
            by_cases hlt : j < g.length
            · obtain ⟨bb, o, rfl, -, -, hcc⟩ := OM.out.atI hlt
              have c1 := hcc _ (Ext.refl _)
              rw [show getI (marksTo g k g.length) j = ((markN g k j : Nat) : Int) from marksTo_get _ _ _ _ hlt] at c1
              clear hcc
              have m4 := markN_small HG.out hlt k
              have e2 := bits_xor (markN g k j) A (by omega) (by omega)
              have x4 := bxor_small m4 hA4
              by_cases hy2 : cnt (bxor (markN g k j) A) ≤ y
              · have HY : Hid (nearP g k y A j = true) := decide_eq_true hy2
                go_wp2_with (go_at_call 65; refine (sizeC _ (by omega) _).mono ?_; rintro e w' ⟨rfl, rfl⟩)
                go_ret2
                exact ⟨ret_pair' (leastP_some hlt HJ.out HY.out).symm, X2.out⟩
              · have HY : Hid (nearP g k y A j = false) := decide_eq_false hy2
                go_wp2_with (go_at_call 65; refine (sizeC _ (by omega) _).mono ?_; rintro e w' ⟨rfl, rfl⟩)
                go_round
                case rel => exact ⟨j + 1, by omega, by go_num, fun m hm => by
                  by_cases h : m = j
                  · subst h; exact HY.out
                  · exact HJ.out m (by omega)⟩
                case measure => simp [intOf]; omega
            · obtain rfl : j = g.length := by omega
              go_wp2
              go_ret2
              exact ⟨ret_pair' (leastP_none HJ.out).symm, X2.out⟩
      · have hz' : ((without A k : Nat) : Int) ≠ 0 := by omega
        have hz2 : (((without A k : Nat) : Int) != 0) = true := by simp; omega
        rw [show sensorFind g k y A = (0, false) from by unfold sensorFind; rw [h0, decide_eq_true (by omega)]; simp [hz]]
        clear hz
        go_enter Tryz.func101, Tryz.ntmps101
        go_wp2_with (go_at_call 139; refine HC.out.mono ?_; rintro e w1 ⟨rfl, x1⟩)
        go_ret2
        exact ⟨rfl, by assumption⟩
end Go.Proofs.YtkmfmhckpfomeaaGreatDoor

/- Balls of a set tell one wrong node just for identifying codes; what is found is near: plain. No condition. -/
namespace Go.Proofs.YtkmfmhckpfomeaaGreatDoor

theorem pick_mem {g : List Int} {s k : Nat} {z : Int} : z ∈ pickTo g s k ↔ ∃ x, x < k ∧ s.testBit x = true ∧ z = ((ballN g x : Nat) : Int) := by
  unfold pickTo
  simp only [List.mem_map, List.mem_filter, List.mem_range]
  constructor
  · rintro ⟨x, ⟨h1, h2⟩, rfl⟩; exact ⟨x, h1, h2, rfl⟩
  · rintro ⟨x, h1, h2, rfl⟩; exact ⟨x, ⟨h1, h2⟩, rfl⟩
theorem gN_mem {l : List Int} {m : Nat} (hm : m < l.length) {b : Nat} (h : l[m] = ((b : Nat) : Int)) : gN l m = b := by
  unfold gN getI
  rw [List.getD_eq_getElem?_getD, List.getElem?_eq_getElem hm, Option.getD_some, h]
  rfl
theorem pick_rows {g : List Int} {s k : Nat} {P : Nat → Prop} : (∀ m, m < (pickTo g s k).length → P (gN (pickTo g s k) m)) ↔ ∀ x, x < k → s.testBit x = true → P (ballN g x) := by
  constructor
  · intro h x hx hs
    obtain ⟨m, hm, e⟩ := List.getElem_of_mem (pick_mem.2 ⟨x, hx, hs, rfl⟩)
    have := h m hm
    rw [gN_mem hm e] at this
    exact this
  · intro h m hm
    obtain ⟨x, hx, hs, e⟩ := pick_mem.1 (List.getElem_mem hm)
    rw [gN_mem hm e]
    exact h x hx hs
theorem answers_eq {tests : List Int} {a b : Nat} : answersOf tests a = answersOf tests b ↔ ∀ m, m < tests.length → (band (gN tests m) a ≠ 0 ↔ band (gN tests m) b ≠ 0) := by
  constructor
  · intro e m hm
    have h1 := answers_bit (tests := tests) (wrong := a) (j := m)
    have h2 := answers_bit (tests := tests) (wrong := b) (j := m)
    rw [e] at h1
    constructor
    · intro h; exact (h2.1 (h1.2 ⟨hm, h⟩)).2
    · intro h; exact (h1.1 (h2.2 ⟨hm, h⟩)).2
  · intro h
    apply Nat.eq_of_testBit_eq
    intro j
    rw [Bool.eq_iff_iff, answers_bit, answers_bit]
    constructor
    · rintro ⟨h1, h2⟩; exact ⟨h1, (h j h1).1 h2⟩
    · rintro ⟨h1, h2⟩; exact ⟨h1, (h j h1).2 h2⟩
theorem band_pow {x i : Nat} : band x (2 ^ i) ≠ 0 ↔ x.testBit i = true := by
  rw [band_ne]
  simp only [Nat.testBit_two_pow, decide_eq_true_eq]
  constructor
  · rintro ⟨j, h, rfl⟩; exact h
  · intro h; exact ⟨i, h, rfl⟩
theorem band_zero' (x : Nat) : band x 0 = 0 := by unfold band; exact Nat.and_zero x
theorem ball_sym {g : List Int} (hg : IsGraph g) (x y : Nat) : (ballN g x).testBit y = (ballN g y).testBit x := by
  unfold ballN
  rw [testBit_bor, testBit_bor, hg.sym x y, Nat.testBit_two_pow, Nat.testBit_two_pow]
  congr 1
  rw [Bool.eq_iff_iff, decide_eq_true_iff, decide_eq_true_iff]
  exact eq_comm
theorem mark_bit {g : List Int} (hg : IsGraph g) (s i x : Nat) : (markN g s i).testBit x = ((ballN g x).testBit i && s.testBit x) := by
  unfold markN
  rw [testBit_band, ball_sym hg]
/-- Equal answers for two nodes, equal marks. -/
theorem mark_eq {g : List Int} (hg : IsGraph g) {s i k : Nat} (hs : s < 2 ^ g.length) : markN g s i = markN g s k ↔ answersOf (pickTo g s g.length) (2 ^ i) = answersOf (pickTo g s g.length) (2 ^ k) := by
  rw [answers_eq, pick_rows (P := fun b => (band b (2 ^ i) ≠ 0 ↔ band b (2 ^ k) ≠ 0))]
  simp only [band_pow]
  constructor
  · intro e x hx hsx
    have := congrArg (fun z => Nat.testBit z x) e
    simp only [mark_bit hg, hsx, Bool.and_true] at this
    rw [this]
  · intro h
    apply Nat.eq_of_testBit_eq
    intro x
    rw [mark_bit hg, mark_bit hg]
    cases hsx : s.testBit x
    · simp
    · rw [Bool.and_true, Bool.and_true, Bool.eq_iff_iff]
      exact h x (bit_lt hs hsx) hsx
theorem mark_zero {g : List Int} (hg : IsGraph g) {s i : Nat} (hs : s < 2 ^ g.length) : markN g s i = 0 ↔ answersOf (pickTo g s g.length) (2 ^ i) = answersOf (pickTo g s g.length) 0 := by
  rw [answers_eq, pick_rows (P := fun b => (band b (2 ^ i) ≠ 0 ↔ band b 0 ≠ 0))]
  simp only [band_pow, band_zero']
  constructor
  · intro e x hx hsx
    have := congrArg (fun z => Nat.testBit z x) e
    simp only [mark_bit hg, hsx, Bool.and_true, Nat.zero_testBit] at this
    rw [this]
    simp
  · intro h
    apply Nat.eq_of_testBit_eq
    intro x
    rw [mark_bit hg, Nat.zero_testBit]
    cases hsx : s.testBit x
    · simp
    · rw [Bool.and_true]
      have := h x (bit_lt hs hsx) hsx
      cases hb : (ballN g x).testBit i
      · rfl
      · exact absurd rfl (this.1 hb)
theorem cnt_one_is {s n : Nat} (hn : n ≤ 12) (hs : s < 2 ^ n) (h : cnt s = 1) : ∃ i, i < n ∧ s = 2 ^ i := by
  have hp := pow_le_12 hn
  have h0 : s ≠ 0 := fun e => by rw [(cnt_zero (by omega)).2 e] at h; cases h
  obtain ⟨i, hi⟩ := ne_bit h0
  rw [Nat.zero_testBit, ne_eq, Bool.not_eq_false] at hi
  refine ⟨i, bit_lt hs hi, ?_⟩
  have h1 : band (2 ^ i) s = 2 ^ i := by
    apply Nat.eq_of_testBit_eq
    intro j
    simp only [testBit_band, Nat.testBit_two_pow]
    by_cases e : i = j
    · subst e; simp [hi]
    · simp [e]
  have := cnt_two_pow i (by have := bit_lt hs hi; omega)
  exact (sub_eq_of_cnt (by omega) h1 (by omega)).symm
theorem balls_tell {g : List Int} (hg : IsGraph g) {s : Nat} (hs : s < 2 ^ g.length) : tellsTo (pickTo g s g.length) 1 (2 ^ g.length) = kindN g 2 s := by
  have hl := hg.le
  have hp := pow_le_12 hl
  have hlt : ∀ i, i < g.length → 2 ^ i < 2 ^ g.length := fun i hi => Nat.pow_lt_pow_right (by omega) hi
  rw [Bool.eq_iff_iff, kind2_iff]
  constructor
  · intro h
    refine ⟨fun i hi e => ?_, fun i hi k hk e => ?_⟩
    · have := tells_inj h (hlt i hi) (Nat.two_pow_pos _) (by rw [cnt_two_pow i (by omega)]; exact Nat.le_refl _) (by decide) ((mark_zero hg hs).1 e)
      have := Nat.two_pow_pos i
      omega
    · have := tells_inj h (hlt i hi) (hlt k (by omega)) (by rw [cnt_two_pow i (by omega)]; exact Nat.le_refl _) (by rw [cnt_two_pow k (by omega)]; exact Nat.le_refl _) ((mark_eq hg hs).1 e)
      have h3 : 2 ^ k < 2 ^ i := Nat.pow_lt_pow_right (by omega) hk
      omega
  · rintro ⟨h1, h2⟩
    rw [tellsTo_iff]
    intro k hk ck j hj cj e
    have ck1 : cnt k = 1 := by
      have := mt (cnt_zero (s := k) (by omega)).1 (by omega)
      omega
    obtain ⟨i, hi, rfl⟩ := cnt_one_is hl hk ck1
    by_cases hj0 : j = 0
    · subst hj0
      exact h1 i hi ((mark_zero hg hs).2 e.symm)
    · have cj1 : cnt j = 1 := by
        have := mt (cnt_zero (s := j) (by omega)).1 hj0
        omega
      obtain ⟨i', hi', rfl⟩ := cnt_one_is hl (show j < 2 ^ g.length by omega) cj1
      have hlt' : i' < i := (Nat.pow_lt_pow_iff_right (by omega)).1 hj
      exact h2 i hi i' hlt' ((mark_eq hg hs).2 e.symm)
theorem cnt_range {s n : Nat} (hs : s < 2 ^ n) (hn : n ≤ 12) : (List.range n).countP (fun i => s.testBit i) = cnt s := by
  obtain ⟨d, hd⟩ : ∃ d, 12 = n + d := ⟨12 - n, by omega⟩
  unfold cnt
  rw [hd]
  clear hd hn
  induction d with
  | zero => rfl
  | succ d ih =>
    rw [ih, show n + (d + 1) = (n + d) + 1 from rfl, List.range_succ, List.countP_append]
    rw [show [n + d].countP (fun i => s.testBit i) = 0 from by simp [testBit_out hs (show n ≤ n + d by omega)]]
    rfl
theorem pick_size {g : List Int} {s : Nat} (hs : s < 2 ^ g.length) (hn : g.length ≤ 12) : (pickTo g s g.length).length = cnt s := by
  unfold pickTo
  rw [List.length_map, ← List.countP_eq_length_filter, cnt_range hs hn]
theorem pick_pool {g : List Int} (hg : IsGraph g) (s : Nat) : IsPool g.length (pickTo g s g.length) := by
  have h1 := pickTo_length g s g.length
  have hl := hg.le
  refine ⟨hg.pos, hl, by omega, fun i hi => ?_, fun i => ?_⟩
  · obtain ⟨x, hx, hsx, e⟩ := pick_mem.1 (List.getElem_mem hi)
    rw [gN_mem hi e]
    unfold getI
    rw [List.getD_eq_getElem?_getD, List.getElem?_eq_getElem hi, Option.getD_some, e]
  · by_cases hi : i < (pickTo g s g.length).length
    · obtain ⟨x, hx, hsx, e⟩ := pick_mem.1 (List.getElem_mem hi)
      rw [gN_mem hi e]
      exact ballN_lt hg hx
    · rw [gN_out (by omega)]; exact Nat.two_pow_pos _
/-- What the law about balls asks. -/
theorem balls_all {g : List Int} {s : Nat} : poolBalls g s = ([], false) ∨ ∃ (l : List Int) (T : Bool), poolBalls g s = (l, true) ∧ l.length ≤ 12 ∧ s ≤ 4095 ∧ l.length = cnt s ∧ poolTells (g.length : Int) l 1 = T ∧ codeIn g 2 s = T := by
  cases hc : fits g s
  · exact .inl (by unfold poolBalls; rw [hc]; rfl)
  · obtain ⟨k, hk, hG, hlt⟩ := fits_iff.1 hc
    obtain rfl : k = s := by omega
    have hl := hG.le
    have hp := pow_le_12 hl
    have h1 := pickTo_length g k g.length
    refine .inr ⟨pickTo g k g.length, kindN g 2 k, by unfold poolBalls; rw [hc]; rfl, by omega, by omega, pick_size hlt hl, ?_, ?_⟩
    · unfold poolTells
      rw [poolIn_iff.2 ⟨_, rfl, pick_pool hG k⟩]
      exact balls_tell hG hlt
    · unfold codeIn
      rw [graphIn_iff.2 hG, setB_iff.2 ⟨k, rfl, hlt⟩]
      rfl

/-! ### What is found is near -/
theorem bears_iff {g : List Int} {s t : Nat} : bearsN g s t = true ↔ ∀ i, i < g.length → 2 * t + 1 ≤ cnt (markN g s i) ∧ ∀ k, k < i → 2 * t + 1 ≤ cnt (bxor (markN g s i) (markN g s k)) := by
  unfold bearsN bearRow bearP
  simp only [List.all_eq_true, List.mem_range, Bool.and_eq_true, decide_eq_true_eq]
theorem cnt_tri (a b c : Nat) : cnt (bxor a c) ≤ cnt (bxor a b) + cnt (bxor b c) := by
  refine Nat.le_trans (cnt_le_of_sub ?_) (cnt_bor (bxor a b) (bxor b c))
  apply Nat.eq_of_testBit_eq
  intro i
  simp only [testBit_band, testBit_bor, testBit_bxor]
  cases a.testBit i <;> cases b.testBit i <;> cases c.testBit i <;> rfl
theorem bxor_swap (a b : Nat) : bxor a b = bxor b a := Nat.xor_comm a b
theorem bxor_zero' (a : Nat) : bxor a 0 = a := Nat.xor_zero a
theorem sensor_parts {g : List Int} {s t : Int} : sensorIn g s t = true ↔ ∃ k y : Nat, s = k ∧ t = y ∧ IsGraph g ∧ k < 2 ^ g.length ∧ y ≤ 4 ∧ bearsN g k y = true := by
  unfold sensorIn
  rw [Bool.and_eq_true, Bool.and_eq_true, fits_iff, inB_iff]
  constructor
  · rintro ⟨⟨⟨k, rfl, hG, hk⟩, h1, h2⟩, h3⟩
    exact ⟨k, t.toNat, rfl, by omega, hG, hk, by omega, h3⟩
  · rintro ⟨k, y, rfl, rfl, hG, hk, hy, hb⟩
    exact ⟨⟨⟨k, rfl, hG, hk⟩, by omega, by omega⟩, hb⟩
theorem bxor_lt_sub {a b s : Nat} (ha : band a s = a) (hb : band b s = b) : without (bxor a b) s = 0 := without_zero.2 (band_self_sub ha hb)
/-- A set near a node's mark finds that node. -/
theorem find_near {g : List Int} {s t al i : Nat} (h : sensorIn g s t = true) (hi : i < g.length) (ha : without al s = 0) (hn : cnt (bxor (markN g s i) al) ≤ t) : sensorFind g s t al = (((i : Nat) : Int), true) := by
  obtain ⟨k, y, hk, hy, hG, hlt, hy4, hb⟩ := sensor_parts.1 h
  obtain rfl : s = k := by omega
  obtain rfl : t = y := by omega
  have hB := bears_iff.1 hb
  unfold sensorFind
  rw [h, show decide ((0 : Int) ≤ (al : Int)) = true from by rw [decide_eq_true_iff]; omega]
  rw [show (without ((al : Int)).toNat ((s : Int)).toNat == 0) = true from by rw [beq_iff_eq]; exact ha]
  rw [if_pos (by rfl)]
  have h1 := cnt_tri (markN g s i) al 0
  rw [bxor_zero', bxor_zero'] at h1
  have h2 := (hB i hi).1
  rw [if_neg (show ¬ cnt ((al : Int)).toNat ≤ ((t : Int)).toNat from by show ¬ cnt al ≤ t; omega)]
  refine leastP_some hi (fun j hj => ?_) ?_
  · have h3 := (hB i hi).2 j hj
    have h4 := cnt_tri (markN g s i) al (markN g s j)
    rw [bxor_swap al] at h4
    show decide (cnt (bxor (markN g s j) al) ≤ t) = false
    rw [decide_eq_false_iff_not]
    omega
  · show decide (cnt (bxor (markN g s i) al) ≤ t) = true
    rw [decide_eq_true_iff]
    exact hn
theorem find_none {g : List Int} {s t : Nat} (h : sensorIn g s t = true) : sensorFind g s t 0 = (-1, true) := by
  unfold sensorFind
  rw [h, show (without ((0 : Int)).toNat ((s : Int)).toNat == 0) = true from by rw [beq_iff_eq]; show without 0 s = 0; rw [without_zero]; unfold band; exact Nat.zero_and s]
  rw [if_pos (by rfl), if_pos (by show cnt 0 ≤ t; rw [show cnt 0 = 0 from by decide]; omega)]
theorem apart_le {a b t : Nat} (h : cnt (bxor a b) ≤ t) : apart a b ≤ (t : Int) := by
  unfold apart
  split
  · show ((cnt (bxor a b) : Nat) : Int) ≤ _
    omega
  · omega
theorem leastP_has {p : Nat → Bool} {N : Nat} {x : Int} (h : leastP p N = (x, true)) : ∃ i : Nat, x = i ∧ i < N ∧ p i = true := by
  unfold leastP at h
  split at h
  · rename_i k hk
    have h1 := List.find?_some hk
    have h2 := List.mem_of_find?_eq_some hk
    simp only [Prod.mk.injEq] at h
    exact ⟨k, h.1.symm, List.mem_range.1 h2, h1⟩
  · cases h
/-- What the law about found nodes asks. -/
theorem find_all {g : List Int} {s t al : Int} : (∃ z, sensorFind g s t al = (z, false)) ∨ ∃ k y A : Nat, s = k ∧ t = y ∧ al = A ∧ IsGraph g ∧ k < 2 ^ g.length ∧ y ≤ 4 ∧ A ≤ 4095 ∧
    ((sensorFind g (k : Int) (y : Int) (A : Int) = (-1, true) ∧ apart 0 (A : Int) ≤ (y : Int)) ∨ ∃ x M : Nat, x < g.length ∧ M ≤ 4095 ∧ M = markN g k x ∧ sensorFind g (k : Int) (y : Int) (A : Int) = (((x : Nat) : Int), true) ∧ apart (M : Int) (A : Int) ≤ (y : Int)) := by
  cases hc : sensorIn g s t && decide (0 ≤ al) && (without al.toNat s.toNat == 0)
  · refine .inl ⟨0, ?_⟩
    unfold sensorFind
    rw [hc]; rfl
  · have hc' := hc
    rw [Bool.and_eq_true, Bool.and_eq_true, decide_eq_true_iff, beq_iff_eq] at hc'
    obtain ⟨⟨h1, h2⟩, h3⟩ := hc'
    obtain ⟨k, y, rfl, rfl, hG, hlt, hy4, hb⟩ := sensor_parts.1 h1
    obtain ⟨A, rfl⟩ : ∃ A : Nat, al = A := ⟨al.toNat, by omega⟩
    have hp := pow_le_12 hG.le
    have hA : A ≤ k := sub_le (show without A k = 0 from h3)
    by_cases hn : cnt A ≤ y
    · refine .inr ⟨k, y, A, rfl, rfl, rfl, hG, hlt, hy4, by omega, .inl ⟨?_, ?_⟩⟩
      · unfold sensorFind
        rw [hc, if_pos rfl, if_pos (show cnt ((A : Int)).toNat ≤ ((y : Int)).toNat from hn)]
      · refine apart_le (a := 0) ?_
        rw [bxor_swap, bxor_zero']; exact hn
    · have e : sensorFind g k y A = leastP (nearP g k y A) g.length := by
        unfold sensorFind
        rw [hc, if_pos rfl, if_neg (show ¬ cnt ((A : Int)).toNat ≤ ((y : Int)).toNat from hn)]
        rfl
      cases hL : leastP (nearP g k y A) g.length with
      | mk z b =>
        cases b
        · exact .inl ⟨z, e.trans hL⟩
        · obtain ⟨i, rfl, hi, hni⟩ := leastP_has hL
          refine .inr ⟨k, y, A, rfl, rfl, rfl, hG, hlt, hy4, by omega, .inr ⟨i, markN g k i, hi, markN_small hG hi k, rfl, e.trans hL, apart_le ?_⟩⟩
          unfold nearP at hni
          rw [decide_eq_true_iff] at hni
          exact hni
end Go.Proofs.YtkmfmhckpfomeaaGreatDoor
