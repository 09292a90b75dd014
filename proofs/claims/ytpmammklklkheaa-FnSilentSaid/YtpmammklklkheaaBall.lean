/- Balls, parts of a set, codes: the small contracts about graphs, of the program and of the reference. The condition: the list has at most 2^20 numbers. -/
import Derived.Test.YtpmammklklkheaaGraphI
namespace Go.Proofs.Ytpmammklklkheaa
open Go.RowKit
open BigFrame

/-- A node and its neighbours. -/
def ballN (g : List Int) (x : Nat) : Nat := bor (gN g x) (2 ^ x)
/-- The nodes of a set that are in a ball. -/
def qIn (g : List Int) (s x : Nat) : Nat := band s (ballN g x)
theorem IsGraph.small {g : List Int} (h : IsGraph g) (i : Nat) : gN g i ≤ 4095 := by
  have := h.lt i
  have := pow_le_12 h.le
  omega
theorem ballN_lt {g : List Int} (h : IsGraph g) {x : Nat} (hx : x < g.length) : ballN g x < 2 ^ g.length :=
  bor_lt (h.lt x) (Nat.pow_lt_pow_right (by omega) hx)
theorem ballN_small {g : List Int} (h : IsGraph g) {x : Nat} (hx : x < g.length) : ballN g x ≤ 4095 := by
  have := ballN_lt h hx
  have := pow_le_12 h.le
  omega
theorem qIn_le (g : List Int) (s x : Nat) : qIn g s x ≤ s := Nat.and_le_left
theorem qIn_without (g : List Int) (s x : Nat) : without s (qIn g s x) = without s (ballN g x) := by
  apply Nat.eq_of_testBit_eq
  intro i
  rw [testBit_without, testBit_without]
  unfold qIn
  rw [testBit_band]
  cases s.testBit i <;> simp
theorem without_le (s t : Nat) (h : s ≤ 4095) : without s t ≤ 4095 := by
  have := without_lt (x := s) (y := t) (n := 12) (by omega)
  omega
theorem node_iff {x : Int} {n : Nat} : inB 0 x ((n : Int) - 1) = true ↔ ∃ k : Nat, x = k ∧ k < n := by
  rw [inB_iff]
  constructor
  · intro h; exact ⟨x.toNat, by omega, by omega⟩
  · rintro ⟨k, rfl, h⟩; omega

set_option maxHeartbeats 400000 in
theorem ball_c (v : Value) (g : List Int) (x : Nat) (w : World) (hv : Rd w v g) (hg : IsGraph g) (hx : x < g.length) :
    Calls Try.prog 80 #[v, .int .i64 x] w fun e w' => e = .returned (.int .i64 (ballN g x : Nat)) ∧ Ext w w' := by
  obtain ⟨a, c, rfl⟩ := hv.form
  obtain ⟨b, o, rfl, -, -, hc⟩ := hv.atI hx
  have c1 := fun u => hc _ (clip_ext w u)
  rw [hg.row x hx] at c1
  have h1 := hg.small x
  have h2 := hg.le
  obtain ⟨p, hp, hp1, hp2, hp3⟩ := pow_var x (by omega)
  have e0 : min x 64 = x := by omega
  have e2 := bits_or (gN g x) p (by omega) (by omega)
  rw [show ballN g x = bor (gN g x) p from by unfold ballN; rw [hp]]
  clear hv hc hg hp
  go_enter Try.func80, Try.ntmps80
  go_wp2
  refine wp_region_ext (by kernel_rfl) (by kernel_rfl) ?_
  repeat (go_big_quiet_step (fail))
  refine wpQuiet_nil ?_
  rintro _ ⟨u, rfl⟩
  go_wp2
  go_ret
  exact ⟨rfl, clip_ext _ _⟩

set_option maxHeartbeats 400000 in
theorem l6qIn_c (v : Value) (g : List Int) (s x : Nat) (w : World) (hv : Rd w v g) (hg : IsGraph g) (hs : s ≤ 4095) (hx : x < g.length) :
    Calls Try.prog 118 #[v, .int .i64 s, .int .i64 x] w fun e w' => e = .returned (.int .i64 (qIn g s x : Nat)) ∧ Ext w w' := by
  obtain ⟨a, c, rfl⟩ := hv.form
  obtain ⟨b, o, rfl, -, -, hc⟩ := hv.atI hx
  have c1 := fun u => hc _ (clip_ext w u)
  rw [hg.row x hx] at c1
  have h1 := hg.small x
  have h2 := hg.le
  have h3 := ballN_small hg hx
  obtain ⟨p, hp, hp1, hp2, hp3⟩ := pow_var x (by omega)
  have e0 : min x 64 = x := by omega
  have e2 := bits_or (gN g x) p (by omega) (by omega)
  have HB : Hid (ballN g x = bor (gN g x) p) := by unfold ballN; rw [hp]; rfl
  rw [← HB.out] at e2
  have e3 := bits_and s (ballN g x) (by omega) (by omega)
  clear hv hc hg hp
  go_enter Try.func118, Try.ntmps118
  go_wp2
  refine wp_region_ext (by kernel_rfl) (by kernel_rfl) ?_
  repeat (go_big_quiet_step (fail))
  refine wpQuiet_nil ?_
  rintro _ ⟨u, rfl⟩
  go_wp2
  go_ret
  exact ⟨rfl, clip_ext _ _⟩

def fits (g : List Int) (s : Int) : Bool := graphIn g && setB s g.length
theorem codeFits_c (v : Value) (g : List Int) (s : Int) (w : World) (hv : Rd w v g) (hm : g.length ≤ 1048576) :
    Calls Try.prog 52 #[v, .int .i64 s] w fun e w' => e = .returned (.bool (fits g s)) ∧ Ext w w' := by
  obtain ⟨a, c, rfl⟩ := hv.form
  have HV := Lib.hid hv; clear hv
  have HM := Lib.hid hm
  cases h0 : graphIn g
  · rw [show fits g s = false from by unfold fits; rw [h0]; rfl]
    go_enter Try.func52, Try.ntmps52
    go_wp2_with (go_at_call 74; refine (graphInI_c _ _ _ HV.out HM.out).mono ?_; rintro e w1 ⟨rfl, x1⟩)
    go_ret
    exact ⟨rfl, by assumption⟩
  · rw [show fits g s = setB s g.length from by unfold fits; rw [h0]; rfl]
    have hl := (graphIn_iff.1 h0).le
    go_enter Try.func52, Try.ntmps52
    go_wp2_with (first | (go_at_call 74; refine (graphInI_c _ _ _ HV.out HM.out).mono ?_; rintro e w1 ⟨rfl, x1⟩) | (go_at_call 76; refine (isSet_c _ g.length (by omega) _).mono ?_; rintro e w' ⟨rfl, rfl⟩))
    go_ret
    exact ⟨rfl, by assumption⟩
theorem fits_iff {g : List Int} {s : Int} : fits g s = true ↔ ∃ k : Nat, s = k ∧ IsGraph g ∧ k < 2 ^ g.length := by
  unfold fits
  rw [Bool.and_eq_true, graphIn_iff, setB_iff]
  exact ⟨fun ⟨h, k, e, hk⟩ => ⟨k, e, h, hk⟩, fun ⟨k, e, h, hk⟩ => ⟨h, k, e, hk⟩⟩
end Go.Proofs.Ytpmammklklkheaa
