/- SensorMost: the reference and the program compute the same plain function. The condition: the list has at most 2^20 numbers. -/
import Derived.Test.YtdoadigekmlnpaaSensorIn
namespace Go.Proofs.Ytdoadigekmlnpaa
open Go.RowKit
open BigFrame

/-- The greatest number below m that a code bears. -/
def mostFrom (g : List Int) (s : Int) : Nat → Int × Bool
  | 0 => (0, false)
  | m + 1 => if sensorIn g s (m : Nat) then (((m : Nat) : Int), true) else mostFrom g s m
def sensorMost (g : List Int) (s : Int) : Int × Bool := mostFrom g s 5

set_option maxHeartbeats 1000000 in
theorem sensorMostS_c (v : Value) (g : List Int) (s : Int) (w : World) (hv : Rd w v g) (hm : g.length ≤ 1048576) :
    Calls Try.prog 57 #[v, .int .i64 s] w fun e w' => e = .returned (pairV (sensorMost g s)) ∧ Ext w w' := by
  obtain ⟨a, c, rfl⟩ := hv.form
  have HV := Lib.hid hv; clear hv
  have HM := Lib.hid hm
  go_enter Try.func57, Try.ntmps57
  go_wp2
  go_loopw [6] (fun i wr => ∃ (m : Nat) (z : Int), m ≤ 5 ∧ z = (m : Int) - 1 ∧ i = .int .i64 z ∧ Hid (sensorMost g s = mostFrom g s m) ∧ Ext w wr) (fun i _ => (intOf i + 1).toNat)
  case atStart => exact ⟨5, 4, by omega, by omega, rfl, rfl, Ext.refl _⟩
  case round =>
    obtain ⟨m, z, hm5, hz, rfl, HS, hx⟩ := hrel
    have HX := Lib.hid hx; clear hx
    cases m with
    | zero =>
      obtain rfl : z = -1 := by omega
      clear hz
      go_wp2
      go_ret2
      exact ⟨ret_pair' HS.out.symm, HX.out⟩
    | succ m =>
      obtain rfl : z = (m : Int) := by omega
      clear hz
      have HC := Lib.hid (sensorInS_c (.slice a g.length c) g s m wr (HV.out.ext HX.out) HM.out)
      cases hb : sensorIn g s (m : Int)
      · have HB := Lib.hid hb
        go_wp2_with (go_at_call 40; refine HC.out.mono ?_; rintro e w1 ⟨rfl, x1⟩)
        go_roundw
        case rel => exact ⟨m, _, by omega, rfl, rfl, by unfold Hid; rw [HS.out, mostFrom, if_neg (by rw [HB.out]; decide)], HX.out.trans (by assumption)⟩
        case measure => simp [intOf]
      · have HB := Lib.hid hb
        go_wp2_with (go_at_call 40; refine HC.out.mono ?_; rintro e w1 ⟨rfl, x1⟩)
        go_ret2
        exact ⟨ret_pair' (by rw [HS.out, mostFrom, if_pos HB.out]), HX.out.trans (by assumption)⟩

set_option maxHeartbeats 1000000 in
theorem sensorMostI_c (v : Value) (g : List Int) (s : Int) (w : World) (hv : Rd w v g) (hm : g.length ≤ 1048576) :
    Calls Try.prog 56 #[v, .int .i64 s] w fun e w' => e = .returned (pairV (sensorMost g s)) ∧ Ext w w' := by
  obtain ⟨a, c, rfl⟩ := hv.form
  have HV := Lib.hid hv; clear hv
  have HM := Lib.hid hm
  go_enter Try.func56, Try.ntmps56
  go_wp2
  go_loopw [6] (fun i wr => ∃ (m : Nat) (z : Int), m ≤ 5 ∧ z = (m : Int) - 1 ∧ i = .int .i64 z ∧ Hid (sensorMost g s = mostFrom g s m) ∧ Ext w wr) (fun i _ => (intOf i + 1).toNat)
  case atStart => exact ⟨5, 4, by omega, by omega, rfl, rfl, Ext.refl _⟩
  case round =>
    obtain ⟨m, z, hm5, hz, rfl, HS, hx⟩ := hrel
    have HX := Lib.hid hx; clear hx
    cases m with
    | zero =>
      obtain rfl : z = -1 := by omega
      clear hz
      go_wp2
      go_ret2
      exact ⟨ret_pair' HS.out.symm, HX.out⟩
    | succ m =>
      obtain rfl : z = (m : Int) := by omega
      clear hz
      have HC := Lib.hid (sensorInI_c (.slice a g.length c) g s m wr (HV.out.ext HX.out) HM.out)
      cases hb : sensorIn g s (m : Int)
      · have HB := Lib.hid hb
        go_wp2_with (go_at_call 30; refine HC.out.mono ?_; rintro e w1 ⟨rfl, x1⟩)
        go_roundw
        case rel => exact ⟨m, _, by omega, rfl, rfl, by unfold Hid; rw [HS.out, mostFrom, if_neg (by rw [HB.out]; decide)], HX.out.trans (by assumption)⟩
        case measure => simp [intOf]
      · have HB := Lib.hid hb
        go_wp2_with (go_at_call 30; refine HC.out.mono ?_; rintro e w1 ⟨rfl, x1⟩)
        go_ret2
        exact ⟨ret_pair' (by rw [HS.out, mostFrom, if_pos HB.out]), HX.out.trans (by assumption)⟩
end Go.Proofs.Ytdoadigekmlnpaa
