/- Pools of tests: PoolIn, PoolAnswers, PoolLeft, SensorApart: the reference and the program compute the same plain functions. The condition: the list has at most 2^20 numbers. -/
import Derived.Test.YtpmammklklkheaaGraph
namespace Go.Proofs.Ytpmammklklkheaa
open Go.RowKit
open BigFrame

theorem all_false {xs : List Int} {p : Int → Bool} {k : Nat} (hk : k < xs.length) (h : p (getI xs k) = false) : xs.all p = false := by
  rw [List.all_eq_false]
  refine ⟨xs[k], List.getElem_mem hk, ?_⟩
  have : getI xs k = xs[k] := by simp [getI, hk]
  rw [← this, h]; decide
theorem all_true {xs : List Int} {p : Int → Bool} (h : ∀ k, k < xs.length → p (getI xs k) = true) : xs.all p = true := by
  rw [List.all_eq_true]
  intro x hx
  obtain ⟨i, hi, rfl⟩ := List.getElem_of_mem hx
  have : getI xs i = xs[i] := by simp [getI, hi]
  rw [← this]; exact h i hi
theorem poolIn_len {items : Int} {tests : List Int} (h : inB 1 items 12 = false) : poolIn items tests = false := by simp [poolIn, h]
theorem poolIn_many {items : Int} {tests : List Int} (h : ¬ tests.length ≤ 16) : poolIn items tests = false := by simp [poolIn, h]

theorem poolIn1_enters : ∀ args w, (callFunc 113 args).run Try.prog w = .ok (.enter 113 args) w :=
  Go.Proofs.enters_of Try.func113 (by kernel_rfl) rfl
theorem poolIn1_c (s : Int) (n b : Nat) (hn : n ≤ 62) (w : World) (hc : w.cell? ⟨b, 0, none⟩ = some (.int .i64 n)) :
    Calls Try.prog 113 #[.int .i64 s, .pointer (some ⟨b, 0, none⟩)] w fun e w' => e = .returned (.bool (!setB s n)) ∧ Ext w w' := by
  go_enter Try.func113, Try.ntmps113
  go_wp2_with (go_at_call 76; refine (isSet_c _ _ hn _).mono ?_; rintro e w' ⟨rfl, rfl⟩)
  go_ret
  exact ⟨rfl, Ext.refl _⟩
theorem not_any_not (xs : List Int) (n : Nat) : (!xs.any fun s => !setB s n) = xs.all fun s => setB s n := by
  induction xs with
  | nil => rfl
  | cons x r ih => simp [← ih]

set_option maxHeartbeats 1000000 in
theorem poolInI_c (items : Int) (v : Value) (xs : List Int) (w : World) (hv : Rd w v xs) (hm : xs.length ≤ 1048576) :
    Calls Try.prog 82 #[.int .i64 items, v] w fun e w' => e = .returned (.bool (poolIn items xs)) ∧ Ext w w' := by
  obtain ⟨a, c, rfl⟩ := hv.form
  have HV := Lib.hid hv; clear hv
  cases h0 : inB 1 items 12
  · go_enter Try.func82, Try.ntmps82
    go_wp2_with (go_at_call 100; refine (in_c _ _ _ _).mono ?_; rintro e w' ⟨rfl, rfl⟩)
    go_ret
    exact ⟨ret_bool (poolIn_len h0).symm, (Ext.refl w).alloc _⟩
  · obtain ⟨n, rfl⟩ : ∃ n : Nat, items = n := ⟨items.toNat, by have := inB_iff.1 h0; omega⟩
    have hn : n ≤ 12 := by have := inB_iff.1 h0; omega
    by_cases h1 : xs.length ≤ 16
    · obtain ⟨W, hW, hx, hsz, c0, f0⟩ := one_new w (.int .i64 n) 3
      have HF := Lib.hid (containsFunc_c (.slice a xs.length c) xs 113 #[.pointer (some ⟨w.heap.size, 0, none⟩)] (fun s => !setB s n) W (HV.out.ext hx) hm poolIn1_enters
        (fun x _ w' hx' => poolIn1_c x n w.heap.size (by omega) w' ((hx'.cell (by omega)).trans c0)))
      have HW := Lib.hid hW; have HX := Lib.hid hx; clear hW hx hsz c0 f0
      have hmf : ∀ (fn : Fn) (first cap : Array Value) (w : World), (Instr.makeFunc fn first cap).run Try.prog w = .ok (.func fn first cap) w := fun _ _ _ _ => rfl
      go_enter Try.func82, Try.ntmps82
      go_wp2_with (first | (go_at_call 100; refine (in_c _ _ _ _).mono ?_; rintro e w' ⟨rfl, rfl⟩) | (go_at_call 112; rw [← HW.out]; refine HF.out.mono ?_; rintro e w' ⟨rfl, hx'⟩))
      go_ret
      refine ⟨ret_bool ?_, HX.out.trans (by assumption)⟩
      unfold poolIn
      rw [h0, ← not_any_not]
      simp [h1]
    · go_enter Try.func82, Try.ntmps82
      go_wp2_with (go_at_call 100; refine (in_c _ _ _ _).mono ?_; rintro e w' ⟨rfl, rfl⟩)
      go_ret
      exact ⟨ret_bool (poolIn_many h1).symm, (Ext.refl w).alloc _⟩
end Go.Proofs.Ytpmammklklkheaa
