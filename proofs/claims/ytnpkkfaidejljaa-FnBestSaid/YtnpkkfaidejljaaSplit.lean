/- The two parts of a set: the reference and the program compute the same plain function. The condition: the list has at most 2^20 numbers. -/
import Derived.Test.YtnpkkfaidejljaaAsker
namespace Go.Proofs.Ytnpkkfaidejljaa
open Go.RowKit
open BigFrame

def triV (p : Int × Int × Bool) : Value := .tuple #[.int .i64 p.1, .int .i64 p.2.1, .bool p.2.2]
def askSplit (g : List Int) (s x : Int) : Int × Int × Bool :=
  if fits g s && inB 0 x ((g.length : Int) - 1) then ((qIn g s.toNat x.toNat : Nat), (without s.toNat (qIn g s.toNat x.toNat) : Nat), true) else (0, 0, false)

set_option maxHeartbeats 1000000 in
theorem askSplitS_c (v : Value) (g : List Int) (s x : Int) (w : World) (hv : Rd w v g) (hm : g.length ≤ 1048576) :
    Calls Try.prog 60 #[v, .int .i64 s, .int .i64 x] w fun e w' => e = .returned (triV (askSplit g s x)) ∧ Ext w w' := by
  obtain ⟨a, c, rfl⟩ := hv.form
  have HV := Lib.hid hv; clear hv
  have HM := Lib.hid hm
  cases h0 : graphIn g
  · rw [show askSplit g s x = (0, 0, false) from by unfold askSplit fits; rw [h0]; rfl]
    go_enter Try.func60, Try.ntmps60
    go_wp2_with (go_at_call 92; refine (graphInS_c _ _ _ HV.out HM.out).mono ?_; rintro e w1 ⟨rfl, x1⟩)
    go_ret3
    exact ⟨rfl, by assumption⟩
  · have hG := graphIn_iff.1 h0
    have hl := hG.le
    have HG := Lib.hid hG
    have h0' := h0
    have H0 := Lib.hid h0'; clear h0' hG
    cases hs : setB s g.length
    · rw [show askSplit g s x = (0, 0, false) from by unfold askSplit fits; rw [h0, hs]; rfl]
      go_enter Try.func60, Try.ntmps60
      go_wp2_with fail
      refine (graphInS_c _ _ _ HV.out HM.out).mono ?_
      rintro e w1 ⟨rfl, x1⟩
      have X1 := Lib.hid x1; clear x1
      go_wp2_with (go_at_call 119; refine (l2Set_c _ g _ _ (HV.out.ext X1.out) (by omega)).mono ?_; rintro e w' ⟨rfl, rfl⟩)
      go_ret3
      exact ⟨rfl, X1.out⟩
    · cases hx : inB 0 x ((g.length : Int) - 1)
      · rw [show askSplit g s x = (0, 0, false) from by unfold askSplit fits; rw [h0, hs, hx]; rfl]
        go_enter Try.func60, Try.ntmps60
        go_wp2_with fail
        refine (graphInS_c _ _ _ HV.out HM.out).mono ?_
        rintro e w1 ⟨rfl, x1⟩
        have X1 := Lib.hid x1; clear x1
        go_wp2_with (first | (go_at_call 119; refine (l2Set_c _ g _ _ (HV.out.ext X1.out) (by omega)).mono ?_; rintro e w' ⟨rfl, rfl⟩) | (go_at_call 93; refine (l6In_c _ _ _ _).mono ?_; rintro e w' ⟨rfl, rfl⟩))
        go_ret3
        exact ⟨rfl, X1.out⟩
      · obtain ⟨k, rfl, hk⟩ := setB_iff.1 hs
        obtain ⟨y, rfl, hy⟩ := node_iff.1 hx
        rw [show askSplit g k y = (((qIn g k y : Nat) : Int), ((without k (qIn g k y) : Nat) : Int), true) from by unfold askSplit fits; rw [h0, hs, hx]; rfl]
        have hk4 : k ≤ 4095 := by have := pow_le_12 hl; omega
        have hq := qIn_le g k y
        have e1 := bits_andNot k (qIn g k y) (by omega) (by omega)
        clear hk
        go_enter Try.func60, Try.ntmps60
        go_wp2_with fail
        refine (graphInS_c _ _ _ HV.out HM.out).mono ?_
        rintro e w1 ⟨rfl, x1⟩
        have X1 := Lib.hid x1; clear x1
        go_wp2_with (first | (go_at_call 119; refine (l2Set_c _ g _ _ (HV.out.ext X1.out) (by omega)).mono ?_; rintro e w' ⟨rfl, rfl⟩) | (go_at_call 93; refine (l6In_c _ _ _ _).mono ?_; rintro e w' ⟨rfl, rfl⟩) | (go_at_call 120; refine (l6qIn_c _ g k y _ (HV.out.ext X1.out) HG.out hk4 hy).mono ?_; rintro e w2 ⟨rfl, x2⟩))
        go_ret3
        exact ⟨rfl, X1.out.trans (by assumption)⟩

set_option maxHeartbeats 1000000 in
theorem askSplitI_c (v : Value) (g : List Int) (s x : Int) (w : World) (hv : Rd w v g) (hm : g.length ≤ 1048576) :
    Calls Try.prog 59 #[v, .int .i64 s, .int .i64 x] w fun e w' => e = .returned (triV (askSplit g s x)) ∧ Ext w w' := by
  obtain ⟨a, c, rfl⟩ := hv.form
  have HV := Lib.hid hv; clear hv
  have HM := Lib.hid hm
  cases h0 : fits g s
  · rw [show askSplit g s x = (0, 0, false) from by unfold askSplit; rw [h0]; rfl]
    go_enter Try.func59, Try.ntmps59
    go_wp2_with (go_at_call 77; refine (codeFits_c _ _ _ _ HV.out HM.out).mono ?_; rintro e w1 ⟨rfl, x1⟩)
    go_ret3
    exact ⟨rfl, by assumption⟩
  · obtain ⟨k, rfl, hG, hk⟩ := fits_iff.1 h0
    have hl := hG.le
    have HG := Lib.hid hG; clear hG
    cases hx : inB 0 x ((g.length : Int) - 1)
    · rw [show askSplit g k x = (0, 0, false) from by unfold askSplit; rw [h0, hx]; rfl]
      go_enter Try.func59, Try.ntmps59
      go_wp2_with fail
      refine (codeFits_c _ _ _ _ HV.out HM.out).mono ?_
      rintro e w1 ⟨rfl, x1⟩
      have X1 := Lib.hid x1; clear x1
      go_wp2_with (go_at_call 85; refine (isNode_c _ g _ _ (HV.out.ext X1.out) HM.out).mono ?_; rintro e w' ⟨rfl, rfl⟩)
      go_ret3
      exact ⟨rfl, X1.out⟩
    · obtain ⟨y, rfl, hy⟩ := node_iff.1 hx
      rw [show askSplit g k y = (((qIn g k y : Nat) : Int), ((without k (qIn g k y) : Nat) : Int), true) from by unfold askSplit; rw [h0, hx]; rfl]
      have hk4 : k ≤ 4095 := by have := pow_le_12 hl; omega
      clear hk
      go_enter Try.func59, Try.ntmps59
      go_wp2_with fail
      refine (codeFits_c _ _ _ _ HV.out HM.out).mono ?_
      rintro e w1 ⟨rfl, x1⟩
      have X1 := Lib.hid x1; clear x1
      go_wp2_with (go_at_call 85; refine (isNode_c _ g _ _ (HV.out.ext X1.out) HM.out).mono ?_; rintro e w' ⟨rfl, rfl⟩)
      refine (askerOf_c _ g _ (HV.out.ext X1.out)).mono ?_
      rintro e w2 ⟨rfl, a2, x2⟩
      have A2 := Lib.hid a2; have X2 := Lib.hid (X1.out.trans x2); clear a2 x2
      go_wp2_with (go_at_call 87; refine (split_c _ _ _ g k y _ A2.out (HV.out.ext X2.out) HG.out hk4 hy).mono ?_; rintro e w3 ⟨rfl, x3⟩)
      go_ret3
      exact ⟨rfl, X2.out.trans (by assumption)⟩
end Go.Proofs.Ytnpkkfaidejljaa
