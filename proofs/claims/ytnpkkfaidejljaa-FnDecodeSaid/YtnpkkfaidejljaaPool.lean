/- Pools of tests: PoolIn, PoolAnswers, PoolLeft, SensorApart: the reference and the program compute the same plain functions. The condition: the list has at most 2^20 numbers. -/
import Derived.Test.YtnpkkfaidejljaaGraph
namespace Go.Proofs.Ytnpkkfaidejljaa
open Go.RowKit
open BigFrame

theorem all_false {xs : List Int} {p : Int → Bool} {k : Nat} (hk : k < xs.length) (h : p (getI xs k) = false) : xs.all p = false := by
  rw [List.all_eq_false]
  refine ⟨xs[k], List.getElem_mem hk, ?_⟩
  have : getI xs k = xs[k] := by simp [getI, hk]
  rw [← this, h]; decide
theorem all_true {xs : List Int} {p : Int → Bool} (h : ∀ k, k < xs.length → p (getI xs k) = true) : xs.all p = true := by
  rw [List.all_eq_true]
  intro x hx
  obtain ⟨i, hi, rfl⟩ := List.getElem_of_mem hx
  have : getI xs i = xs[i] := by simp [getI, hi]
  rw [← this]; exact h i hi
theorem poolIn_len {items : Int} {tests : List Int} (h : inB 1 items 12 = false) : poolIn items tests = false := by simp [poolIn, h]
theorem poolIn_many {items : Int} {tests : List Int} (h : ¬ tests.length ≤ 16) : poolIn items tests = false := by simp [poolIn, h]

set_option maxHeartbeats 1000000 in
theorem poolInS_c (items : Int) (v : Value) (xs : List Int) (w : World) (hv : Rd w v xs) (hm : xs.length ≤ 1048576) :
    Calls Try.prog 52 #[.int .i64 items, v] w fun e w' => e = .returned (.bool (poolIn items xs)) ∧ Ext w w' := by
  obtain ⟨a, c, rfl⟩ := hv.form
  have HV := Lib.hid hv; clear hv
  cases h0 : inB 1 items 12
  · go_enter Try.func52, Try.ntmps52
    go_wp2_with (go_at_call 93; refine (l6In_c _ _ _ _).mono ?_; rintro e w' ⟨rfl, rfl⟩)
    go_ret
    exact ⟨ret_bool (poolIn_len h0).symm, Ext.refl _⟩
  · obtain ⟨n, rfl⟩ : ∃ n : Nat, items = n := ⟨items.toNat, by have := inB_iff.1 h0; omega⟩
    have hn : n ≤ 12 := by have := inB_iff.1 h0; omega
    by_cases h1 : xs.length ≤ 16
    · obtain ⟨p, hp, hp1, hp2, hp3⟩ := pow_var n (by omega)
      have HP := Lib.hid hp; clear hp
      have e0 : min n 64 = n := by omega
      have H0 := Lib.hid h0
      go_enter Try.func52, Try.ntmps52
      go_wp2_with (go_at_call 93; refine (l6In_c _ _ _ _).mono ?_; rintro e w' ⟨rfl, rfl⟩)
      go_loopw [5] (fun i wr => ∃ k : Nat, k ≤ xs.length ∧ i = .int .i64 k ∧ (∀ j, j < k → setB (getI xs j) n = true) ∧ Ext w wr) (fun i _ => xs.length - (intOf i).toNat)
      case atStart => exact ⟨0, Nat.zero_le _, rfl, by simp, Ext.refl _⟩
      case round =>
        obtain ⟨k, hk, rfl, hj, hx⟩ := hrel
        have HJ := Lib.hid hj; clear hj
        have HX := Lib.hid hx; clear hx
        by_cases hlt : k < xs.length
        · obtain ⟨b, o, rfl, -, -, hc⟩ := HV.out.atI hlt
          have c1 := fun u => hc _ (HX.out.trans (clip_ext wr u))
          clear hc
          cases hs : setB (getI xs k) n
          · have hs' : inB 0 (getI xs k) ((p : Int) - 1) = false := by rw [← HP.out]; exact hs
            have HS := Lib.hid hs; clear hs
            go_wp2
            refine wp_region_ext (by kernel_rfl) (by kernel_rfl) ?_
            repeat (go_big_quiet_step ((go_at_call 93; exact Calls.clip_same (l6In_c _ _ _ _))))
            refine wpQuiet_nil ?_
            rintro _ ⟨u, rfl⟩
            go_wp2
            go_ret
            refine ⟨ret_bool ?_, HX.out.trans (clip_ext _ _)⟩
            unfold poolIn
            rw [all_false hlt (by simpa using HS.out)]
            simp
          · have hs' : inB 0 (getI xs k) ((p : Int) - 1) = true := by rw [← HP.out]; exact hs
            have HS := Lib.hid hs; clear hs
            go_wp2
            refine wp_region_ext (by kernel_rfl) (by kernel_rfl) ?_
            repeat (go_big_quiet_step ((go_at_call 93; exact Calls.clip_same (l6In_c _ _ _ _))))
            refine wpQuiet_nil ?_
            rintro _ ⟨u, rfl⟩
            go_wp2
            go_roundw
            case rel => exact ⟨k + 1, by omega, by go_num, fun j hj => by
              by_cases h : j = k
              · subst h; exact HS.out
              · exact HJ.out j (by omega), HX.out.trans (clip_ext _ _)⟩
            case measure => simp [intOf]; omega
        · go_wp2
          go_ret
          obtain rfl : k = xs.length := by omega
          refine ⟨ret_bool ?_, HX.out⟩
          unfold poolIn
          rw [H0.out, all_true (by simpa using HJ.out)]
          simp [h1]
    · go_enter Try.func52, Try.ntmps52
      go_wp2_with (go_at_call 93; refine (l6In_c _ _ _ _).mono ?_; rintro e w' ⟨rfl, rfl⟩)
      go_ret
      exact ⟨ret_bool (poolIn_many h1).symm, Ext.refl _⟩

theorem poolIn1_enters : ∀ args w, (callFunc 115 args).run Try.prog w = .ok (.enter 115 args) w :=
  Go.Proofs.enters_of Try.func115 (by kernel_rfl) rfl
theorem poolIn1_c (s : Int) (n b : Nat) (hn : n ≤ 62) (w : World) (hc : w.cell? ⟨b, 0, none⟩ = some (.int .i64 n)) :
    Calls Try.prog 115 #[.int .i64 s, .pointer (some ⟨b, 0, none⟩)] w fun e w' => e = .returned (.bool (!setB s n)) ∧ Ext w w' := by
  go_enter Try.func115, Try.ntmps115
  go_wp2_with (go_at_call 109; refine (isSet_c _ _ hn _).mono ?_; rintro e w' ⟨rfl, rfl⟩)
  go_ret
  exact ⟨rfl, Ext.refl _⟩
theorem not_any_not (xs : List Int) (n : Nat) : (!xs.any fun s => !setB s n) = xs.all fun s => setB s n := by
  induction xs with
  | nil => rfl
  | cons x r ih => simp [← ih]

set_option maxHeartbeats 1000000 in
theorem poolInI_c (items : Int) (v : Value) (xs : List Int) (w : World) (hv : Rd w v xs) (hm : xs.length ≤ 1048576) :
    Calls Try.prog 51 #[.int .i64 items, v] w fun e w' => e = .returned (.bool (poolIn items xs)) ∧ Ext w w' := by
  obtain ⟨a, c, rfl⟩ := hv.form
  have HV := Lib.hid hv; clear hv
  cases h0 : inB 1 items 12
  · go_enter Try.func51, Try.ntmps51
    go_wp2_with (go_at_call 111; refine (in_c _ _ _ _).mono ?_; rintro e w' ⟨rfl, rfl⟩)
    go_ret
    exact ⟨ret_bool (poolIn_len h0).symm, (Ext.refl w).alloc _⟩
  · obtain ⟨n, rfl⟩ : ∃ n : Nat, items = n := ⟨items.toNat, by have := inB_iff.1 h0; omega⟩
    have hn : n ≤ 12 := by have := inB_iff.1 h0; omega
    by_cases h1 : xs.length ≤ 16
    · obtain ⟨W, hW, hx, hsz, c0, f0⟩ := one_new w (.int .i64 n) 3
      have HF := Lib.hid (containsFunc_c (.slice a xs.length c) xs 115 #[.pointer (some ⟨w.heap.size, 0, none⟩)] (fun s => !setB s n) W (HV.out.ext hx) hm poolIn1_enters
        (fun x _ w' hx' => poolIn1_c x n w.heap.size (by omega) w' ((hx'.cell (by omega)).trans c0)))
      have HW := Lib.hid hW; have HX := Lib.hid hx; clear hW hx hsz c0 f0
      have hmf : ∀ (fn : Fn) (first cap : Array Value) (w : World), (Instr.makeFunc fn first cap).run Try.prog w = .ok (.func fn first cap) w := fun _ _ _ _ => rfl
      go_enter Try.func51, Try.ntmps51
      go_wp2_with (first | (go_at_call 111; refine (in_c _ _ _ _).mono ?_; rintro e w' ⟨rfl, rfl⟩) | (go_at_call 114; rw [← HW.out]; refine HF.out.mono ?_; rintro e w' ⟨rfl, hx'⟩))
      go_ret
      refine ⟨ret_bool ?_, HX.out.trans (by assumption)⟩
      unfold poolIn
      rw [h0, ← not_any_not]
      simp [h1]
    · go_enter Try.func51, Try.ntmps51
      go_wp2_with (go_at_call 111; refine (in_c _ _ _ _).mono ?_; rintro e w' ⟨rfl, rfl⟩)
      go_ret
      exact ⟨ret_bool (poolIn_many h1).symm, (Ext.refl w).alloc _⟩
end Go.Proofs.Ytnpkkfaidejljaa
