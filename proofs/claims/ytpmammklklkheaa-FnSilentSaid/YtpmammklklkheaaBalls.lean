/- The balls of all nodes: the reference and the program compute the same plain list. No condition. -/
import Derived.Test.YtpmammklklkheaaBall
import Derived.Test.YtpmammklklkheaaAppend
import Derived.Deep.RegionLaw
namespace Go.Proofs.Ytpmammklklkheaa
open Go.RowKit
open BigFrame

def ballsTo (g : List Int) (k : Nat) : List Int := (List.range k).map fun i => ((ballN g i : Nat) : Int)
theorem ballsTo_succ (g : List Int) (k : Nat) : ballsTo g (k + 1) = ballsTo g k ++ [((ballN g k : Nat) : Int)] := by simp [ballsTo, List.range_succ]
theorem ballsTo_length (g : List Int) (k : Nat) : (ballsTo g k).length = k := by simp [ballsTo]
theorem ballsTo_get (g : List Int) (k i : Nat) (h : i < k) : (ballsTo g k).getD i 0 = ((ballN g i : Nat) : Int) := by simp [ballsTo, h]

set_option maxRecDepth 100000 in
set_option maxHeartbeats 1000000 in
theorem l1Balls_c (v : Value) (g : List Int) (w : World) (hv : Rd w v g) (hg : IsGraph g) :
    Calls Try.prog 81 #[v] w fun e w' => ∃ v', e = .returned v' ∧ Own w' w.heap.size v' (ballsTo g g.length) ∧ Ext w w' := by
  obtain ⟨a, c, rfl⟩ := hv.form
  have HV := Lib.hid hv; clear hv
  have HG := Lib.hid hg
  have hl := hg.le
  clear hg
  go_enter Try.func81, Try.ntmps81
  go_wp2
  go_loopw [3, 4] (fun o i wr => ∃ k : Nat, k ≤ g.length ∧ i = .int .i64 k ∧ Own wr w.heap.size o (ballsTo g k) ∧ Ext w wr) (fun _ i _ => g.length - (intOf i).toNat)
  case atStart => exact ⟨0, Nat.zero_le _, rfl, Own.lit w, (Ext.refl w).alloc _⟩
  case round =>
    obtain ⟨k, hk, rfl, ho, hx⟩ := hrel
    have HO := Lib.hid ho; have HX := Lib.hid hx; clear ho hx
    by_cases hlt : k < g.length
    · obtain ⟨b, o, rfl, -, -, hc⟩ := HV.out.atI hlt
      have c1 := hc _ HX.out
      have c2 := hc _ HX.out.drew
      clear hc
      rw [HG.out.row k hlt] at c1 c2
      have h1 := HG.out.small k
      obtain ⟨p, hp, hp1, hp2, hp3⟩ := pow_var k (by omega)
      have e0 : min k 64 = k := by omega
      have e2 := bits_or (gN g k) p (by omega) (by omega)
      have HB : Hid (ballN g k = bor (gN g k) p) := by unfold ballN; rw [hp]; rfl
      clear hp
      have HQ : Hid (ballsTo g k ++ [bits .or .i64 (gN g k : Int) (IntKind.i64.wrap (p : Int))] = ballsTo g (k + 1)) := by rw [ballsTo_succ, wrap_i64_nat p (by omega), e2, HB.out]; rfl
      go_wp2
      go_region_law (first | (refine step_append_int rfl _ _ rfl w.heap.size _ _ rfl (HO.out.drew.alloc _) wr.heap.size _ rfl (one_cell _ _ _) (by rw [ballsTo_length]; omega) (by simp; have := HX.out.size; omega) ?_; intro v' w3 ho3 hg3 hn3))
      have HX3 : Hid (Ext w w3) := (HO.out.drew.alloc _).grew (HX.out.drew.alloc _) hg3 (Nat.le_refl _)
      have HO3 : Hid (Own w3 w.heap.size v' (ballsTo g (k + 1))) := by rw [← HQ.out]; exact ho3
      clear ho3 hg3 hn3
      simp only [Act.put, Exit.inBlock]
      go_wp2
      go_roundw
      case rel => exact ⟨k + 1, by omega, by go_num, HO3.out, HX3.out⟩
      case measure => simp [intOf]; omega
    · obtain rfl : k = g.length := by omega
      go_wp2
      go_ret
      exact ⟨_, rfl, HO.out, HX.out⟩

set_option maxHeartbeats 1000000 in
theorem balls_c (v : Value) (g : List Int) (w : World) (hv : Rd w v g) (hg : IsGraph g) :
    Calls Try.prog 101 #[v] w fun e w' => ∃ v', e = .returned v' ∧ Own w' w.heap.size v' (ballsTo g g.length) ∧ Ext w w' := by
  obtain ⟨a, c, rfl⟩ := hv.form
  have HV := Lib.hid hv; clear hv
  have HG := Lib.hid hg
  have hl := hg.le
  clear hg
  go_enter Try.func101, Try.ntmps101
  go_wp2
  go_loopw [3, 7] (fun o i wr => ∃ k : Nat, k ≤ g.length ∧ i = .int .i64 k ∧ Own wr w.heap.size o (ballsTo g k) ∧ Ext w wr) (fun _ i _ => g.length - (intOf i).toNat)
  case atStart => exact ⟨0, Nat.zero_le _, rfl, Own.nil _ _, Ext.refl w⟩
  case round =>
    obtain ⟨k, hk, rfl, ho, hx⟩ := hrel
    have HO := Lib.hid ho; have HX := Lib.hid hx; clear ho hx
    by_cases hlt : k < g.length
    · go_wp2_with fail
      refine (ball_c _ g k _ (HV.out.ext HX.out) HG.out hlt).mono ?_
      rintro e w2 ⟨rfl, x2⟩
      have O2 := Lib.hid (HO.out.ext x2); have X2 := Lib.hid (HX.out.trans x2); clear x2
      go_wp2_with (at_builtin; refine wpList_append_int rfl _ _ rfl w.heap.size _ _ rfl (O2.out.alloc _) w2.heap.size _ rfl (one_cell _ _ _) (by rw [ballsTo_length]; omega) (by simp; have := X2.out.size; omega) ?_; intro v' w3 ho3 hg3 hn3)
      have HX3 : Hid (Ext w w3) := (O2.out.alloc _).grew (X2.out.alloc _) hg3 (Nat.le_refl _)
      have HO3 : Hid (Own w3 w.heap.size v' (ballsTo g (k + 1))) := by rw [ballsTo_succ]; exact ho3
      clear ho3 hg3 hn3
      go_wp2
      go_roundw
      case rel => exact ⟨k + 1, by omega, by go_num, HO3.out, HX3.out⟩
      case measure => simp [intOf]; omega
    · obtain rfl : k = g.length := by omega
      go_wp2
      go_ret
      exact ⟨_, rfl, HO.out, HX.out⟩
end Go.Proofs.Ytpmammklklkheaa
