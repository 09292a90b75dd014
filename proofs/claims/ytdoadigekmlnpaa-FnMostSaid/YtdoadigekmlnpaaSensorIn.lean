/- SensorIn: the reference and the program compute the same plain function. The condition: the list has at most 2^20 numbers. -/
import Derived.Test.YtdoadigekmlnpaaBears
namespace Go.Proofs.Ytdoadigekmlnpaa
open Go.RowKit
open BigFrame

def sensorIn (g : List Int) (s t : Int) : Bool := fits g s && inB 0 t 4 && bearsN g s.toNat t.toNat

set_option maxHeartbeats 1000000 in
theorem sensorInS_c (v : Value) (g : List Int) (s t : Int) (w : World) (hv : Rd w v g) (hm : g.length ≤ 1048576) :
    Calls Try.prog 40 #[v, .int .i64 s, .int .i64 t] w fun e w' => e = .returned (.bool (sensorIn g s t)) ∧ Ext w w' := by
  obtain ⟨a, c, rfl⟩ := hv.form
  have HV := Lib.hid hv; clear hv
  have HM := Lib.hid hm
  cases h0 : graphIn g
  · rw [show sensorIn g s t = false from by unfold sensorIn fits; rw [h0]; rfl]
    go_enter Try.func40, Try.ntmps40
    go_wp2_with (go_at_call 92; refine (graphInS_c _ _ _ HV.out HM.out).mono ?_; rintro e w1 ⟨rfl, x1⟩)
    go_ret
    exact ⟨rfl, by assumption⟩
  · have hG := graphIn_iff.1 h0
    have hl := hG.le
    have HG := Lib.hid hG; clear hG
    cases hs : setB s g.length
    · rw [show sensorIn g s t = false from by unfold sensorIn fits; rw [h0, hs]; rfl]
      go_enter Try.func40, Try.ntmps40
      go_wp2_with fail
      refine (graphInS_c _ _ _ HV.out HM.out).mono ?_
      rintro e w1 ⟨rfl, x1⟩
      have X1 := Lib.hid x1; clear x1
      go_wp2_with (go_at_call 103; refine (l2Set_c _ g _ _ (HV.out.ext X1.out) (by omega)).mono ?_; rintro e w' ⟨rfl, rfl⟩)
      go_ret
      exact ⟨rfl, X1.out⟩
    · cases ht : inB 0 t 4
      · rw [show sensorIn g s t = false from by unfold sensorIn fits; rw [h0, hs, ht]; rfl]
        go_enter Try.func40, Try.ntmps40
        go_wp2_with fail
        refine (graphInS_c _ _ _ HV.out HM.out).mono ?_
        rintro e w1 ⟨rfl, x1⟩
        have X1 := Lib.hid x1; clear x1
        go_wp2_with (first | (go_at_call 103; refine (l2Set_c _ g _ _ (HV.out.ext X1.out) (by omega)).mono ?_; rintro e w' ⟨rfl, rfl⟩) | (go_at_call 93; refine (l6In_c _ _ _ _).mono ?_; rintro e w' ⟨rfl, rfl⟩))
        go_ret
        exact ⟨rfl, X1.out⟩
      · obtain ⟨k, rfl, hk⟩ := setB_iff.1 hs
        have hk4 : k ≤ 4095 := by have := pow_le_12 hl; omega
        obtain ⟨y, rfl⟩ : ∃ y : Nat, t = y := ⟨t.toNat, by have := inB_iff.1 ht; omega⟩
        have hy : y ≤ 4 := by have := inB_iff.1 ht; omega
        rw [show sensorIn g k y = bearsN g k y from by unfold sensorIn fits; rw [h0, hs, ht]; rfl]
        clear hk
        go_enter Try.func40, Try.ntmps40
        go_wp2_with fail
        refine (graphInS_c _ _ _ HV.out HM.out).mono ?_
        rintro e w1 ⟨rfl, x1⟩
        have X1 := Lib.hid x1; clear x1
        go_wp2_with (first | (go_at_call 103; refine (l2Set_c _ g _ _ (HV.out.ext X1.out) (by omega)).mono ?_; rintro e w' ⟨rfl, rfl⟩) | (go_at_call 93; refine (l6In_c _ _ _ _).mono ?_; rintro e w' ⟨rfl, rfl⟩) | (go_at_call 95; refine (l5Bears_c _ g k y _ (HV.out.ext X1.out) HG.out hk4 hy).mono ?_; rintro e w2 ⟨rfl, x2⟩))
        go_ret
        exact ⟨rfl, X1.out.trans (by assumption)⟩

set_option maxHeartbeats 1000000 in
theorem sensorInI_c (v : Value) (g : List Int) (s t : Int) (w : World) (hv : Rd w v g) (hm : g.length ≤ 1048576) :
    Calls Try.prog 30 #[v, .int .i64 s, .int .i64 t] w fun e w' => e = .returned (.bool (sensorIn g s t)) ∧ Ext w w' := by
  obtain ⟨a, c, rfl⟩ := hv.form
  have HV := Lib.hid hv; clear hv
  have HM := Lib.hid hm
  cases h0 : fits g s
  · rw [show sensorIn g s t = false from by unfold sensorIn; rw [h0]; rfl]
    go_enter Try.func30, Try.ntmps30
    go_wp2_with (go_at_call 99; refine (codeFits_c _ _ _ _ HV.out HM.out).mono ?_; rintro e w1 ⟨rfl, x1⟩)
    go_ret
    exact ⟨rfl, by assumption⟩
  · cases ht : inB 0 t 4
    · rw [show sensorIn g s t = false from by unfold sensorIn; rw [h0, ht]; rfl]
      go_enter Try.func30, Try.ntmps30
      go_wp2_with (first | (go_at_call 99; refine (codeFits_c _ _ _ _ HV.out HM.out).mono ?_; rintro e w1 ⟨rfl, x1⟩) | (go_at_call 87; refine (isBorne_c _ _).mono ?_; rintro e w' ⟨rfl, rfl⟩))
      go_ret
      exact ⟨rfl, by assumption⟩
    · obtain ⟨k, rfl, hG, hk⟩ := fits_iff.1 h0
      have hl := hG.le
      have HG := Lib.hid hG; clear hG
      have hk4 : k ≤ 4095 := by have := pow_le_12 hl; omega
      obtain ⟨y, rfl⟩ : ∃ y : Nat, t = y := ⟨t.toNat, by have := inB_iff.1 ht; omega⟩
      have hy : y ≤ 4 := by have := inB_iff.1 ht; omega
      rw [show sensorIn g k y = bearsN g k y from by unfold sensorIn; rw [h0, ht]; rfl]
      clear hk
      go_enter Try.func30, Try.ntmps30
      go_wp2_with fail
      refine (codeFits_c _ _ _ _ HV.out HM.out).mono ?_
      rintro e w1 ⟨rfl, x1⟩
      have X1 := Lib.hid x1; clear x1
      go_wp2_with (go_at_call 87; refine (isBorne_c _ _).mono ?_; rintro e w' ⟨rfl, rfl⟩)
      refine (bookOf_c _ g _ (HV.out.ext X1.out) HG.out).mono ?_
      rintro e w2 ⟨b, vb, vf, vs, rfl, -, hb, x2⟩
      have HB := Lib.hid hb; have X2 := Lib.hid (X1.out.trans x2); clear hb x2
      go_wp2_with (go_at_call 91; refine (bears_c b _ _ _ _ g k y _ HB.out HG.out hk4 hy).mono ?_; rintro e w3 ⟨rfl, x3⟩)
      go_ret
      exact ⟨rfl, X2.out.trans (by assumption)⟩
end Go.Proofs.Ytdoadigekmlnpaa
