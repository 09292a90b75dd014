/- The pool with a test for each binary digit: the reference and the program compute the same plain list. No condition. -/
import Derived.Test.YtnpkkfaidejljaaAppend
import Derived.Test.YtnpkkfaidejljaaPl
namespace Go.Proofs.Ytnpkkfaidejljaa
open Go.RowKit
open BigFrame

/-- The items below j whose digit of weight p is 1. -/
def digitTo (p : Nat) : Nat → Nat
  | 0 => 0
  | j + 1 => if j / p % 2 = 1 then bor (digitTo p j) (2 ^ j) else digitTo p j
theorem digitTo_lt (p : Nat) : ∀ j, digitTo p j < 2 ^ j
  | 0 => by simp [digitTo]
  | j + 1 => by
    have h := digitTo_lt p j
    unfold digitTo
    split
    · exact bor_lt (Nat.lt_of_lt_of_le h (Nat.pow_le_pow_right (by omega) (by omega))) (Nat.pow_lt_pow_right (by omega) (by omega))
    · exact Nat.lt_of_lt_of_le h (Nat.pow_le_pow_right (by omega) (by omega))
theorem digitTo_small {p j : Nat} (h : j ≤ 12) : digitTo p j ≤ 4095 := by
  have := digitTo_lt p j
  have := pow_le_12 h
  omega
def digitsTo (n k : Nat) : List Int := (List.range k).map fun i => ((digitTo (2 ^ i) n : Nat) : Int)
theorem digitsTo_succ (n k : Nat) : digitsTo n (k + 1) = digitsTo n k ++ [((digitTo (2 ^ k) n : Nat) : Int)] := by simp [digitsTo, List.range_succ]
theorem digitsTo_length (n k : Nat) : (digitsTo n k).length = k := by simp [digitsTo]
def digitsN (n : Nat) : List Int := digitsTo n ((List.range 5).countP fun k => decide (2 ^ k ≤ n - 1))
def digits (a : Int) : List Int × Bool := if inB 1 a 12 then (digitsN a.toNat, true) else ([], false)
theorem digits_end : ∀ n, n ≤ 12 → ∀ k, k ≤ 4 → (k = 0 ∨ 2 ^ (k - 1) ≤ n - 1) → n - 1 < 2 ^ k → (List.range 5).countP (fun k => decide (2 ^ k ≤ n - 1)) = k := by decide
theorem shr_pos : ∀ n, n ≤ 12 → ∀ k, k ≤ 4 → ((0 < shr (n - 1) k) ↔ 2 ^ k ≤ n - 1) := by decide
theorem bit_div (i k : Nat) : i.testBit k = decide (i / 2 ^ k % 2 = 1) := Nat.testBit_eq_decide_div_mod_eq

/-- What a function that returns a list and whether it holds returns. -/
def listV (v : Value) (b : Bool) : Value := .tuple #[v, .bool b]

theorem quo_cases (j p : Nat) : ∃ d, d ≤ j ∧ ((j : Int) / (p : Int)) = (d : Int) ∧ (((d : Int) % 2 == 1) = decide (j / p % 2 = 1)) := by
  refine ⟨j / p, Nat.div_le_self _ _, by simp, ?_⟩
  rw [show ((j / p : Nat) : Int) % 2 = ((j / p % 2 : Nat) : Int) from rfl]
  by_cases h : j / p % 2 = 1
  · rw [h]; rfl
  · have h0 : j / p % 2 = 0 := by omega
    rw [h0]; rfl

set_option maxHeartbeats 1000000 in
theorem poolDigitsS_c (a : Int) (w : World) :
    Calls Try.prog 47 #[.int .i64 a] w fun e w' => ∃ v, e = .returned (listV v (digits a).2) ∧ Own w' w.heap.size v (digits a).1 ∧ Ext w w' := by
  cases h0 : inB 1 a 12
  · rw [show digits a = ([], false) from by unfold digits; rw [h0]; rfl]
    go_enter Try.func47, Try.ntmps47
    go_wp2_with (go_at_call 93; refine (l6In_c _ _ _ _).mono ?_; rintro e w' ⟨rfl, rfl⟩)
    go_ret2
    exact ⟨_, rfl, Own.lit w, (Ext.refl w).alloc _⟩
  · obtain ⟨n, rfl⟩ : ∃ n : Nat, a = n := ⟨a.toNat, by have := inB_iff.1 h0; omega⟩
    rw [show digits (n : Int) = (digitsN n, true) from by unfold digits; rw [h0]; rfl]
    have hn := inB_iff.1 h0
    have hn1 : 1 ≤ n := by omega
    have hn2 : n ≤ 12 := by omega
    clear hn
    go_enter Try.func47, Try.ntmps47
    go_wp2_with (go_at_call 93; refine (l6In_c _ _ _ _).mono ?_; rintro e w' ⟨rfl, rfl⟩)
    go_loopw [4, 5] (fun o q wr => ∃ k p : Nat, k ≤ 4 ∧ q = .int .i64 p ∧ Hid (p = 2 ^ k) ∧ 1 ≤ p ∧ p ≤ 2 * n ∧ Hid (k = 0 ∨ 2 ^ (k - 1) ≤ n - 1) ∧ Own wr w.heap.size o (digitsTo n k) ∧ Ext w wr) (fun _ q _ => 100 - (intOf q).toNat)
    case atStart => exact ⟨0, 1, by omega, rfl, rfl, by omega, by omega, .inl rfl, Own.lit w, (Ext.refl w).alloc _⟩
    case round =>
      obtain ⟨k, p, hk, rfl, HP, hp1, hp2, HK, ho, hx⟩ := hrel
      have HO := Lib.hid ho; have HX := Lib.hid hx; clear ho hx
      by_cases hlt : p ≤ n - 1
      · have hlt' : (p : Int) ≤ (n : Int) - 1 := by omega
        go_wp2
        go_loop [6, 7] (fun t i => ∃ j : Nat, j ≤ n ∧ i = .int .i64 j ∧ t = .int .i64 (digitTo p j : Nat)) (fun _ i => n - (intOf i).toNat)
        case atStart => exact ⟨0, Nat.zero_le _, rfl, rfl⟩
        case round =>
          obtain ⟨j, hj, rfl, rfl⟩ := hrel
          have h1 : digitTo p j ≤ 4095 := digitTo_small (by omega)
          have H2 : Hid (digitTo p (j + 1) = if j / p % 2 = 1 then bor (digitTo p j) (2 ^ j) else digitTo p j) := rfl
          generalize hq : digitTo p j = q at *
          have H3 := Lib.hid hq; clear hq
          by_cases hl : j < n
          · obtain ⟨t, ht, ht1, ht2, ht3⟩ := pow_var j (by omega)
            have e0 : min j 64 = j := by omega
            have e2 := bits_or q t (by omega) (by omega)
            have H4 := Lib.hid ht; clear ht
            obtain ⟨d, hd1, hd2, hd3⟩ := quo_cases j p
            by_cases hz : j / p % 2 = 1
            · rw [decide_eq_true hz] at hd3
              have HZ := Lib.hid hz; clear hz
              go_wp2
              go_round
              case rel => exact ⟨j + 1, by omega, by go_num, by rw [H2.out, if_pos HZ.out, H4.out]⟩
              case measure => simp [intOf]; omega
            · rw [decide_eq_false hz] at hd3
              have HZ := Lib.hid hz; clear hz
              go_wp2
              go_round
              case rel => exact ⟨j + 1, by omega, by go_num, by rw [H2.out, if_neg HZ.out]⟩
              case measure => simp [intOf]; omega
          · obtain rfl : j = n := by omega
            have hh : k ≤ 3 := by
              have := HP.out
              apply Classical.byContradiction
              intro h
              obtain rfl : k = 4 := by omega
              omega
            have HQ : Hid (digitsTo j k ++ [(q : Int)] = digitsTo j (k + 1)) := by rw [digitsTo_succ, ← HP.out, H3.out]; rfl
            go_wp2_with (at_builtin; refine wpList_append_int rfl _ _ rfl w.heap.size _ _ rfl (HO.out.alloc _) wr.heap.size q rfl (one_cell wr _ _) (by rw [digitsTo_length]; omega) (by simp; have := HX.out.size; omega) ?_; intro v' w3 ho3 hg3 hn3)
            have HO3 : Hid (Own w3 w.heap.size v' (digitsTo j (k + 1))) := by rw [← HQ.out]; exact ho3
            have HX3 : Hid (Ext w w3) := (HO.out.alloc (Obj.cells #[.int .i64 (q : Int)] 3)).grew (HX.out.alloc _) hg3 (Nat.le_refl _)
            clear ho3 hg3 hn3
            go_wp2
            go_roundw
            case rel => exact ⟨k + 1, 2 * p, by omega, by go_num, by unfold Hid; rw [HP.out, Nat.pow_succ]; omega, by omega, by omega, .inr (by rw [Nat.add_sub_cancel, ← HP.out]; omega), HO3.out, HX3.out⟩
            case measure => simp [intOf]; omega
      · have hlt' : ¬ (p : Int) ≤ (n : Int) - 1 := by omega
        go_wp2
        go_ret2
        refine ⟨_, rfl, ?_, HX.out⟩
        unfold digitsN
        rw [digits_end n hn2 k hk HK.out (by rw [← HP.out]; omega)]
        exact HO.out

set_option maxHeartbeats 1000000 in
theorem poolDigitsI_c (a : Int) (w : World) :
    Calls Try.prog 46 #[.int .i64 a] w fun e w' => ∃ v, e = .returned (listV v (digits a).2) ∧ Own w' w.heap.size v (digits a).1 ∧ Ext w w' := by
  cases h0 : inB 1 a 12
  · rw [show digits a = ([], false) from by unfold digits; rw [h0]; rfl]
    go_enter Try.func46, Try.ntmps46
    go_wp2_with (go_at_call 111; refine (in_c _ _ _ _).mono ?_; rintro e w' ⟨rfl, rfl⟩)
    go_ret2
    exact ⟨_, rfl, Own.nil _ _, Ext.refl w⟩
  · obtain ⟨n, rfl⟩ : ∃ n : Nat, a = (n : Int) + 1 := ⟨(a - 1).toNat, by have := inB_iff.1 h0; omega⟩
    rw [show digits ((n : Int) + 1) = (digitsN (n + 1), true) from by unfold digits; rw [h0]; rfl]
    have hn := inB_iff.1 h0
    have hn2 : n ≤ 11 := by omega
    clear hn
    go_enter Try.func46, Try.ntmps46
    go_wp2_with (go_at_call 111; refine (in_c _ _ _ _).mono ?_; rintro e w' ⟨rfl, rfl⟩)
    go_loopw [4, 5] (fun o q wr => ∃ k : Nat, k ≤ 4 ∧ q = .int .i64 k ∧ Hid (k = 0 ∨ 2 ^ (k - 1) ≤ n) ∧ Own wr w.heap.size o (digitsTo (n + 1) k) ∧ Ext w wr) (fun _ q _ => 4 - (intOf q).toNat)
    case atStart => exact ⟨0, by omega, rfl, .inl rfl, Own.nil _ _, Ext.refl w⟩
    case round =>
      obtain ⟨k, hk, rfl, HK, ho, hx⟩ := hrel
      have HO := Lib.hid ho; have HX := Lib.hid hx; clear ho hx
      have e1 := div_pow_nat n k
      have e5 : min k 64 = k := by omega
      have HS := Lib.hid (shr_pos (n + 1) (by omega) k hk)
      by_cases hlt : 0 < shr n k
      · have HL := Lib.hid (HS.out.1 hlt)
        go_wp2
        clear e1 e5 hlt
        go_loop [6, 19] (fun t i => ∃ j : Nat, j ≤ n + 1 ∧ i = .int .i64 j ∧ t = .int .i64 (digitTo (2 ^ k) j : Nat)) (fun _ i => n + 1 - (intOf i).toNat)
        case atStart => exact ⟨0, Nat.zero_le _, rfl, rfl⟩
        case round =>
          obtain ⟨j, hj, rfl, rfl⟩ := hrel
          have h1 : digitTo (2 ^ k) j ≤ 4095 := digitTo_small (by omega)
          have H2 : Hid (digitTo (2 ^ k) (j + 1) = if j / 2 ^ k % 2 = 1 then bor (digitTo (2 ^ k) j) (2 ^ j) else digitTo (2 ^ k) j) := rfl
          generalize hq : digitTo (2 ^ k) j = q at *
          have H3 := Lib.hid hq; clear hq
          by_cases hl : j < n + 1
          · obtain ⟨t, ht, ht1, ht2, ht3⟩ := pow_var j (by omega)
            have e0 : min j 64 = j := by omega
            have e2 := bits_or q t (by omega) (by omega)
            have H4 := Lib.hid ht; clear ht
            have HB := Lib.hid (bit_div j k)
            cases hz : j.testBit k
            · have HZ : Hid (¬ j / 2 ^ k % 2 = 1) := by have h := HB.out; rw [hz] at h; exact of_decide_eq_false (p := j / 2 ^ k % 2 = 1) h.symm
              go_wp2_with (go_at_call 88; refine (has_c j k (by omega) (by omega) _).mono ?_; rintro e w' ⟨rfl, rfl⟩)
              go_round
              case rel => exact ⟨j + 1, by omega, by go_num, by rw [H2.out, if_neg HZ.out]⟩
              case measure => simp [intOf]; omega
            · have HZ : Hid (j / 2 ^ k % 2 = 1) := by have h := HB.out; rw [hz] at h; exact of_decide_eq_true (p := j / 2 ^ k % 2 = 1) h.symm
              go_wp2_with (go_at_call 88; refine (has_c j k (by omega) (by omega) _).mono ?_; rintro e w' ⟨rfl, rfl⟩)
              go_round
              case rel => exact ⟨j + 1, by omega, by go_num, by rw [H2.out, if_pos HZ.out, H4.out]⟩
              case measure => simp [intOf]; omega
          · obtain rfl : j = n + 1 := by omega
            have hh : k ≤ 3 := by
              have := HL.out
              apply Classical.byContradiction
              intro h
              obtain rfl : k = 4 := by omega
              omega
            have HQ : Hid (digitsTo (n + 1) k ++ [(q : Int)] = digitsTo (n + 1) (k + 1)) := by rw [digitsTo_succ, H3.out]; rfl
            go_wp2_with (at_builtin; refine wpList_append_int rfl _ _ rfl w.heap.size _ _ rfl (HO.out.alloc _) wr.heap.size q rfl (one_cell wr _ _) (by rw [digitsTo_length]; omega) (by simp; have := HX.out.size; omega) ?_; intro v' w3 ho3 hg3 hn3)
            have HO3 : Hid (Own w3 w.heap.size v' (digitsTo (n + 1) (k + 1))) := by rw [← HQ.out]; exact ho3
            have HX3 : Hid (Ext w w3) := (HO.out.alloc (Obj.cells #[.int .i64 (q : Int)] 3)).grew (HX.out.alloc _) hg3 (Nat.le_refl _)
            clear ho3 hg3 hn3
            go_wp2
            go_roundw
            case rel => exact ⟨k + 1, by omega, by go_num, .inr (by have := HL.out; simpa using this), HO3.out, HX3.out⟩
            case measure => simp [intOf]; omega
      · have HL : Hid (¬ 2 ^ k ≤ n + 1 - 1) := fun h => hlt (HS.out.2 h)
        go_wp2
        go_ret2
        refine ⟨_, rfl, ?_, HX.out⟩
        unfold digitsN
        rw [digits_end (n + 1) (by omega) k hk HK.out (by have := HL.out; omega)]
        exact HO.out
end Go.Proofs.Ytnpkkfaidejljaa
