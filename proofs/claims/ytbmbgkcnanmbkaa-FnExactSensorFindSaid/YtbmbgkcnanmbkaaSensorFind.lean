/- SensorFind: the reference and the program compute the same plain function. The condition: the list has at most 2^20 numbers. -/
import Derived.Test.YtbmbgkcnanmbkaaSensorIn
import Derived.Test.YtbmbgkcnanmbkaaDecode
namespace Go.Proofs.Ytbmbgkcnanmbkaa
open Go.RowKit
open BigFrame

def nearP (g : List Int) (s t al i : Nat) : Bool := decide (cnt (bxor (markN g s i) al) ≤ t)
def sensorFind (g : List Int) (s t al : Int) : Int × Bool :=
  if sensorIn g s t && decide (0 ≤ al) && (without al.toNat s.toNat == 0) then if cnt al.toNat ≤ t.toNat then (-1, true) else leastP (nearP g s.toNat t.toNat al.toNat) g.length else (0, false)
theorem sensorIn_iff {g : List Int} {s t : Int} (h : sensorIn g s t = true) : ∃ k y : Nat, s = k ∧ t = y ∧ IsGraph g ∧ k ≤ 4095 ∧ y ≤ 4 := by
  unfold sensorIn at h
  simp only [Bool.and_eq_true] at h
  obtain ⟨k, rfl, hG, hk⟩ := fits_iff.1 h.1.1
  have ht := inB_iff.1 h.1.2
  exact ⟨k, t.toNat, rfl, by omega, hG, by have := pow_le_12 hG.le; omega, by omega⟩
theorem sub_le {a b : Nat} (h : without a b = 0) : a ≤ b := by
  have e : a = band a b := by
    apply Nat.eq_of_testBit_eq
    intro i
    have h1 := congrArg (fun n => n.testBit i) h
    simp only [testBit_without, Nat.zero_testBit] at h1
    rw [testBit_band]
    cases ha : a.testBit i
    · rfl
    · rw [ha, Bool.true_and] at h1
      cases hb : b.testBit i
      · rw [hb] at h1; cases h1
      · rfl
  rw [e]; exact band_le _ _

set_option maxRecDepth 100000 in
set_option maxHeartbeats 2000000 in
theorem sensorFindS_c (v : Value) (g : List Int) (s t al : Int) (w : World) (hal : al < 9223372036854775808) (hv : Rd w v g) (hm : g.length ≤ 1048576) :
    Calls Try.prog 60 #[v, .int .i64 s, .int .i64 t, .int .i64 al] w fun e w' => e = .returned (pairV (sensorFind g s t al)) ∧ Ext w w' := by
  obtain ⟨a, c, rfl⟩ := hv.form
  have HV := Lib.hid hv; clear hv
  have HM := Lib.hid hm
  have HC := Lib.hid (sensorInS_c (.slice a g.length c) g s t w HV.out HM.out)
  cases h0 : sensorIn g s t
  · rw [show sensorFind g s t al = (0, false) from by unfold sensorFind; rw [h0]; rfl]
    go_enter Try.func60, Try.ntmps60
    go_wp2_with (go_at_call 54; refine HC.out.mono ?_; rintro e w1 ⟨rfl, x1⟩)
    go_ret2
    exact ⟨rfl, by assumption⟩
  · obtain ⟨k, y, rfl, rfl, hG, hk4, hy⟩ := sensorIn_iff h0
    have hl := hG.le
    have HG := Lib.hid hG; clear hG
    have H0 := Lib.hid h0
    by_cases hn : al < 0
    · rw [show sensorFind g k y al = (0, false) from by unfold sensorFind; rw [h0, decide_eq_false (by omega)]; rfl]
      go_enter Try.func60, Try.ntmps60
      go_wp2_with (go_at_call 54; refine HC.out.mono ?_; rintro e w1 ⟨rfl, x1⟩)
      go_ret2
      exact ⟨rfl, by assumption⟩
    · obtain ⟨A, rfl⟩ : ∃ A : Nat, al = A := ⟨al.toNat, by omega⟩
      have hA63 : A < 2 ^ 63 := by omega
      have e1 := bits_andNot A k (by omega) (by omega)
      by_cases hz : without A k = 0
      · have hA4 : A ≤ 4095 := Nat.le_trans (sub_le hz) hk4
        have HZ := Lib.hid hz
        have HE : Hid (sensorFind g k y A = if cnt A ≤ y then (-1, true) else leastP (nearP g k y A) g.length) := by
          unfold sensorFind Hid
          rw [h0, decide_eq_true (by omega)]
          simp [hz]
        have e1' : bits .andNot .i64 (A : Int) (k : Int) = 0 := by rw [e1, hz]; rfl
        have hA0 : ((A : Int) < 0) = False := by simp
        have hal' : (A : Int) ≤ 4095 := by omega
        clear e1 hz hA63 hn hal
        by_cases hc : cnt A ≤ y
        · rw [HE.out, if_pos hc]
          go_enter Try.func60, Try.ntmps60
          go_wp2_with fail
          refine HC.out.mono ?_
          rintro e w1 ⟨rfl, x1⟩
          have X1 := Lib.hid x1; clear x1
          go_wp2_with (go_at_call 76; refine (l1Count_c A (by omega) _).mono ?_; rintro e w' ⟨rfl, rfl⟩)
          go_ret2
          exact ⟨rfl, X1.out⟩
        · rw [HE.out, if_neg hc]
          go_enter Try.func60, Try.ntmps60
          go_wp2_with fail
          refine HC.out.mono ?_
          rintro e w1 ⟨rfl, x1⟩
          have X1 := Lib.hid x1; clear x1
          go_wp2_with (go_at_call 76; refine (l1Count_c A (by omega) _).mono ?_; rintro e w' ⟨rfl, rfl⟩)
          refine (l2Marks_c _ g k _ (HV.out.ext X1.out) HG.out hk4).mono ?_
          rintro e w2 ⟨vm, rfl, om, x2⟩
          have X2 := Lib.hid (X1.out.trans x2); clear x2
          obtain ⟨gm, cm, rfl⟩ := om.form' (marksTo_length g k g.length)
          have OM := Lib.hid om.rd; clear om
          go_wp2
          go_loop [11] (fun i => ∃ j : Nat, j ≤ g.length ∧ i = .int .i64 j ∧ Hid (∀ m, m < j → nearP g k y A m = false)) (fun i => g.length - (intOf i).toNat)
          case atStart => exact ⟨0, Nat.zero_le _, rfl, fun m hm => absurd hm (Nat.not_lt_zero m)⟩
          case round =>
            obtain ⟨j, hj, rfl, HJ⟩ := hrel
            by_cases hlt : j < g.length
            · obtain ⟨bb, o, rfl, -, -, hcc⟩ := OM.out.atI hlt
              have c1 := hcc _ (Ext.refl _)
              rw [show getI (marksTo g k g.length) j = ((markN g k j : Nat) : Int) from marksTo_get _ _ _ _ hlt] at c1
              clear hcc
              have m4 := markN_small HG.out hlt k
              have e2 := bits_xor (markN g k j) A (by omega) (by omega)
              have x4 := bxor_small m4 hA4
              by_cases hy2 : cnt (bxor (markN g k j) A) ≤ y
              · have HY : Hid (nearP g k y A j = true) := decide_eq_true hy2
                go_wp2_with (go_at_call 76; refine (l1Count_c _ (by omega) _).mono ?_; rintro e w' ⟨rfl, rfl⟩)
                go_ret2
                exact ⟨ret_pair' (leastP_some hlt HJ.out HY.out).symm, X2.out⟩
              · have HY : Hid (nearP g k y A j = false) := decide_eq_false hy2
                go_wp2_with (go_at_call 76; refine (l1Count_c _ (by omega) _).mono ?_; rintro e w' ⟨rfl, rfl⟩)
                go_round
                case rel => exact ⟨j + 1, by omega, by go_num, fun m hm => by
                  by_cases h : m = j
                  · subst h; exact HY.out
                  · exact HJ.out m (by omega)⟩
                case measure => simp [intOf]; omega
            · obtain rfl : j = g.length := by omega
              go_wp2
              go_ret2
              exact ⟨ret_pair' (leastP_none HJ.out).symm, X2.out⟩
      · have hz' : ((without A k : Nat) : Int) ≠ 0 := by omega
        have hz2 : (((without A k : Nat) : Int) != 0) = true := by simp; omega
        rw [show sensorFind g k y A = (0, false) from by unfold sensorFind; rw [h0, decide_eq_true (by omega)]; simp [hz]]
        clear hz
        go_enter Try.func60, Try.ntmps60
        go_wp2_with (go_at_call 54; refine HC.out.mono ?_; rintro e w1 ⟨rfl, x1⟩)
        go_ret2
        exact ⟨rfl, by assumption⟩

set_option maxRecDepth 100000 in
set_option maxHeartbeats 2000000 in
theorem sensorFindI_c (v : Value) (g : List Int) (s t al : Int) (w : World) (hal : al < 9223372036854775808) (hv : Rd w v g) (hm : g.length ≤ 1048576) :
    Calls Try.prog 61 #[v, .int .i64 s, .int .i64 t, .int .i64 al] w fun e w' => e = .returned (pairV (sensorFind g s t al)) ∧ Ext w w' := by
  obtain ⟨a, c, rfl⟩ := hv.form
  have HV := Lib.hid hv; clear hv
  have HM := Lib.hid hm
  have HC := Lib.hid (sensorInI_c (.slice a g.length c) g s t w HV.out HM.out)
  cases h0 : sensorIn g s t
  · rw [show sensorFind g s t al = (0, false) from by unfold sensorFind; rw [h0]; rfl]
    go_enter Try.func61, Try.ntmps61
    go_wp2_with (go_at_call 55; refine HC.out.mono ?_; rintro e w1 ⟨rfl, x1⟩)
    go_ret2
    exact ⟨rfl, by assumption⟩
  · obtain ⟨k, y, rfl, rfl, hG, hk4, hy⟩ := sensorIn_iff h0
    have hl := hG.le
    have HG := Lib.hid hG; clear hG
    have H0 := Lib.hid h0
    by_cases hn : al < 0
    · rw [show sensorFind g k y al = (0, false) from by unfold sensorFind; rw [h0, decide_eq_false (by omega)]; rfl]
      go_enter Try.func61, Try.ntmps61
      go_wp2_with (go_at_call 55; refine HC.out.mono ?_; rintro e w1 ⟨rfl, x1⟩)
      go_ret2
      exact ⟨rfl, by assumption⟩
    · obtain ⟨A, rfl⟩ : ∃ A : Nat, al = A := ⟨al.toNat, by omega⟩
      have hA63 : A < 2 ^ 63 := by omega
      have e1 := bits_andNot A k (by omega) (by omega)
      by_cases hz : without A k = 0
      · have hA4 : A ≤ 4095 := Nat.le_trans (sub_le hz) hk4
        have HZ := Lib.hid hz
        have HE : Hid (sensorFind g k y A = if cnt A ≤ y then (-1, true) else leastP (nearP g k y A) g.length) := by
          unfold sensorFind Hid
          rw [h0, decide_eq_true (by omega)]
          simp [hz]
        have e1' : bits .andNot .i64 (A : Int) (k : Int) = 0 := by rw [e1, hz]; rfl
        have hA0 : ((A : Int) < 0) = False := by simp
        have hal' : (A : Int) ≤ 4095 := by omega
        clear e1 hz hA63 hn hal
        by_cases hc : cnt A ≤ y
        · rw [HE.out, if_pos hc]
          go_enter Try.func61, Try.ntmps61
          go_wp2_with fail
          refine HC.out.mono ?_
          rintro e w1 ⟨rfl, x1⟩
          have X1 := Lib.hid x1; clear x1
          go_wp2_with (go_at_call 77; refine (sizeC A (by omega) _).mono ?_; rintro e w' ⟨rfl, rfl⟩)
          go_ret2
          exact ⟨rfl, X1.out⟩
        · rw [HE.out, if_neg hc]
          go_enter Try.func61, Try.ntmps61
          go_wp2_with fail
          refine HC.out.mono ?_
          rintro e w1 ⟨rfl, x1⟩
          have X1 := Lib.hid x1; clear x1
          go_wp2_with (go_at_call 77; refine (sizeC A (by omega) _).mono ?_; rintro e w' ⟨rfl, rfl⟩)
          refine (bookOf_c _ g _ (HV.out.ext X1.out) HG.out).mono ?_
          rintro e wb ⟨b, vb, vf, vs, rfl, -, hb, xb⟩
          have HB := Lib.hid hb; have XB := Lib.hid xb; clear hb xb
          go_wp2_with fail
          refine (marks_c b _ _ _ _ g k _ HB.out HG.out hk4).mono ?_
          rintro e w2 ⟨vm, rfl, om, x2'⟩
          have x2 := XB.out.trans x2'
          clear x2'
          have X2 := Lib.hid (X1.out.trans x2); clear x2
          obtain ⟨gm, cm, rfl⟩ := om.form' (marksTo_length g k g.length)
          have OM := Lib.hid om.rd; clear om
          go_wp2
          go_loop [36] (fun i => ∃ j : Nat, j ≤ g.length ∧ i = .int .i64 j ∧ Hid (∀ m, m < j → nearP g k y A m = false)) (fun i => g.length - (intOf i).toNat)
          case atStart => exact ⟨0, Nat.zero_le _, rfl, fun m hm => absurd hm (Nat.not_lt_zero m)⟩
          case round =>
            obtain ⟨j, hj, rfl, HJ⟩ := hrel
            by_cases hlt : j < g.length
            · obtain ⟨bb, o, rfl, -, -, hcc⟩ := OM.out.atI hlt
              have c1 := hcc _ (Ext.refl _)
              rw [show getI (marksTo g k g.length) j = ((markN g k j : Nat) : Int) from marksTo_get _ _ _ _ hlt] at c1
              clear hcc
              have m4 := markN_small HG.out hlt k
              have e2 := bits_xor (markN g k j) A (by omega) (by omega)
              have x4 := bxor_small m4 hA4
              by_cases hy2 : cnt (bxor (markN g k j) A) ≤ y
              · have HY : Hid (nearP g k y A j = true) := decide_eq_true hy2
                go_wp2_with (go_at_call 77; refine (sizeC _ (by omega) _).mono ?_; rintro e w' ⟨rfl, rfl⟩)
                go_ret2
                exact ⟨ret_pair' (leastP_some hlt HJ.out HY.out).symm, X2.out⟩
              · have HY : Hid (nearP g k y A j = false) := decide_eq_false hy2
                go_wp2_with (go_at_call 77; refine (sizeC _ (by omega) _).mono ?_; rintro e w' ⟨rfl, rfl⟩)
                go_round
                case rel => exact ⟨j + 1, by omega, by go_num, fun m hm => by
                  by_cases h : m = j
                  · subst h; exact HY.out
                  · exact HJ.out m (by omega)⟩
                case measure => simp [intOf]; omega
            · obtain rfl : j = g.length := by omega
              go_wp2
              go_ret2
              exact ⟨ret_pair' (leastP_none HJ.out).symm, X2.out⟩
      · have hz' : ((without A k : Nat) : Int) ≠ 0 := by omega
        have hz2 : (((without A k : Nat) : Int) != 0) = true := by simp; omega
        rw [show sensorFind g k y A = (0, false) from by unfold sensorFind; rw [h0, decide_eq_true (by omega)]; simp [hz]]
        clear hz
        go_enter Try.func61, Try.ntmps61
        go_wp2_with (go_at_call 55; refine HC.out.mono ?_; rintro e w1 ⟨rfl, x1⟩)
        go_ret2
        exact ⟨rfl, by assumption⟩
end Go.Proofs.Ytbmbgkcnanmbkaa
