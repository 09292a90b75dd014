/- The set with the fewest nodes for which something holds. The condition: at most 4096 sets. -/
import Derived.Test.YtpmammklklkheaaBears
namespace Go.Proofs.Ytpmammklklkheaa
open Go.RowKit
open BigFrame

def lo (p : Nat → Bool) : Nat → Option Nat
  | 0 => none
  | k + 1 => match lo p k with
    | none => if p k then some k else none
    | some b => if decide (cnt k < cnt b) && p k then some k else some b
theorem lo_none {p : Nat → Bool} {k : Nat} (h : lo p k = none) : lo p (k + 1) = if p k then some k else none := by rw [lo, h]
theorem lo_some {p : Nat → Bool} {k b : Nat} (h : lo p k = some b) : lo p (k + 1) = if decide (cnt k < cnt b) && p k then some k else some b := by rw [lo, h]
theorem lo_lt {p : Nat → Bool} : ∀ (k : Nat) (b : Nat), lo p k = some b → b < k
  | 0, b, h => by cases h
  | k + 1, b, h => by
    cases e : lo p k with
    | none =>
      rw [lo_none e] at h
      split at h
      · cases h; omega
      · cases h
    | some c =>
      have h1 := lo_lt k c e
      rw [lo_some e] at h
      split at h
      · cases h; omega
      · cases h; omega
def loP (o : Option Nat) : Int × Bool := match o with
  | some b => (((b : Nat) : Int), true)
  | none => (0, false)

set_option maxHeartbeats 2000000 in
theorem least_c (N K : Nat) (cap : Array Value) (p : Nat → Bool) (w : World) (h1 : 1 ≤ N) (hN : N ≤ 4096)
    (eg : ∀ args w, (callFunc K args).run Try.prog w = .ok (.enter K args) w)
    (hf : ∀ k, k < N → ∀ w', Ext w w' → Calls Try.prog K (#[.int .i64 (k : Nat)] ++ cap) w' fun e w'' => e = .returned (.bool (p k)) ∧ Ext w' w'') :
    Calls Try.prog 95 #[.int .i64 ((N - 1 : Nat) : Int), .func (.func K) #[] cap] w fun e w' => e = .returned (pairV (loP (lo p N))) ∧ Ext w w' := by
  obtain ⟨M, rfl⟩ : ∃ M, N = M + 1 := ⟨N - 1, by omega⟩
  rw [Nat.add_sub_cancel]
  have HF := Lib.hid hf; clear hf h1
  go_enter Try.func95, Try.ntmps95
  go_wp2
  go_loopw [6, 7, 8] (fun b f i wr => ∃ (k z : Nat) (q : Bool), k ≤ M + 1 ∧ i = .int .i64 k ∧ b = .int .i64 z ∧ f = .bool q ∧ Hid ((lo p k = none ∧ z = 0 ∧ q = false) ∨ (lo p k = some z ∧ q = true ∧ z ≤ 4095)) ∧ Ext w wr) (fun _ _ i _ => M + 1 - (intOf i).toNat)
  case atStart => exact ⟨0, 0, false, Nat.zero_le _, rfl, rfl, rfl, .inl ⟨rfl, rfl, rfl⟩, Ext.refl _⟩
  case round =>
    obtain ⟨k, z, q, hk, rfl, rfl, rfl, HL, hx⟩ := hrel
    have HX := Lib.hid hx; clear hx
    by_cases hlt : k ≤ M
    · have HF1 := HF.out k (by omega) wr HX.out
      have k4 : k ≤ 4095 := by omega
      have HS := Lib.hid fun w => sizeC k k4 w
      rcases HL.out with ⟨h1, rfl, rfl⟩ | ⟨h1, rfl, hz4⟩
      · have HN := Lib.hid (lo_none h1); clear h1 HL
        cases hp : p k <;> rw [hp] at HF1
        · have HP := Lib.hid hp; clear hp
          go_wp2_with fail
          refine HF1.mono ?_
          rintro e w' ⟨rfl, hx'⟩
          go_wp2
          go_roundw
          case rel => exact ⟨k + 1, 0, false, by omega, by go_num, rfl, rfl, .inl ⟨by rw [HN.out, HP.out]; rfl, rfl, rfl⟩, HX.out.trans hx'⟩
          case measure => simp [intOf]; omega
        · have HP := Lib.hid hp; clear hp
          go_wp2_with fail
          refine HF1.mono ?_
          rintro e w' ⟨rfl, hx'⟩
          go_wp2
          go_roundw
          case rel => exact ⟨k + 1, k, true, by omega, by go_num, rfl, rfl, .inr ⟨by rw [HN.out, HP.out]; rfl, rfl, k4⟩, HX.out.trans hx'⟩
          case measure => simp [intOf]; omega
      · have HN := Lib.hid (lo_some h1); have H1 := Lib.hid h1; clear h1 HL
        have HZ := Lib.hid fun w => sizeC z hz4 w
        by_cases hc : cnt k < cnt z
        · have HC := Lib.hid (decide_eq_true hc)
          have HT : Hid (∀ w, Calls Try.prog 57 #[.int .i64 k] w fun e w' => e = .returned (.int .i64 (cnt k : Nat)) ∧ w = w') := HS.out
          cases hp : p k <;> rw [hp] at HF1
          · have HP := Lib.hid hp; clear hp
            have HFh := Lib.hid HF1; clear HF1
            go_wp2_with (first | (go_at_call 57; with_reducible refine (HT.out _).mono ?_; rintro e w' ⟨rfl, rfl⟩) | (go_at_call 57; with_reducible refine (HZ.out _).mono ?_; rintro e w' ⟨rfl, rfl⟩))
            refine HFh.out.mono ?_
            rintro e w' ⟨rfl, hx'⟩
            go_wp2
            go_roundw
            case rel => exact ⟨k + 1, z, true, by omega, by go_num, rfl, rfl, .inr ⟨by rw [HN.out, HP.out, Bool.and_false]; rfl, rfl, hz4⟩, HX.out.trans hx'⟩
            case measure => simp [intOf]; omega
          · have HP := Lib.hid hp; clear hp
            have HFh := Lib.hid HF1; clear HF1
            go_wp2_with (first | (go_at_call 57; with_reducible refine (HT.out _).mono ?_; rintro e w' ⟨rfl, rfl⟩) | (go_at_call 57; with_reducible refine (HZ.out _).mono ?_; rintro e w' ⟨rfl, rfl⟩))
            refine HFh.out.mono ?_
            rintro e w' ⟨rfl, hx'⟩
            go_wp2
            go_roundw
            case rel => exact ⟨k + 1, k, true, by omega, by go_num, rfl, rfl, .inr ⟨by rw [HN.out, HP.out, HC.out]; rfl, rfl, k4⟩, HX.out.trans hx'⟩
            case measure => simp [intOf]; omega
        · have HC := Lib.hid (decide_eq_false hc)
          clear HF1
          go_wp2_with (first | (go_at_call 57; with_reducible refine (HS.out _).mono ?_; rintro e w' ⟨rfl, rfl⟩) | (go_at_call 57; with_reducible refine (HZ.out _).mono ?_; rintro e w' ⟨rfl, rfl⟩))
          go_roundw
          case rel => exact ⟨k + 1, z, true, by omega, by go_num, rfl, rfl, .inr ⟨by rw [HN.out, HC.out]; rfl, rfl, hz4⟩, HX.out⟩
          case measure => simp [intOf]; omega
    · obtain rfl : k = M + 1 := by omega
      go_wp2
      go_ret2
      refine ⟨?_, HX.out⟩
      rcases HL.out with ⟨h1, rfl, rfl⟩ | ⟨h1, rfl, hz4⟩
      · rw [h1]; rfl
      · rw [h1]; rfl
end Go.Proofs.Ytpmammklklkheaa
