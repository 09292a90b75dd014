/- What the walk of FnSensorFind rests on, part 2: plain facts, and contracts of the functions that it reaches. Each states its own condition. -/
import Derived.Test.YtpmammklklkheaaProg
import Derived.Test.YtpmammklklkheaaFnSensorFindP1
/- The contracts of the small functions on integers and sets, of the program and of the reference. No condition but the bounds that each names. -/
namespace Go.Proofs.Ytpmammklklkheaa
open Go.RowKit
open BigFrame

theorem l6In_c (n lo hi : Int) (w : World) :
    Calls Try.prog 65 #[.int .i64 n, .int .i64 lo, .int .i64 hi] w fun e w' => e = .returned (.bool (inB lo n hi)) ∧ w = w' := by
  go_enter Try.func65, Try.ntmps65
  go_wp2
  all_goals (go_ret; refine ⟨?_, rfl⟩; simp [inB]; omega)
theorem in_c (n lo hi : Int) (w : World) :
    Calls Try.prog 100 #[.int .i64 n, .int .i64 lo, .int .i64 hi] w fun e w' => e = .returned (.bool (inB lo n hi)) ∧ w = w' := by
  go_enter Try.func100, Try.ntmps100
  go_wp2
  all_goals (go_ret; refine ⟨?_, rfl⟩; simp [inB]; omega)
theorem has_c (s k : Nat) (hs : s < 2 ^ 62) (hk : k ≤ 62) (w : World) :
    Calls Try.prog 110 #[.int .i64 s, .int .i64 k] w fun e w' => e = .returned (.bool (s.testBit k)) ∧ w = w' := by
  have e0 : min k 64 = k := by omega
  have e1 := div_pow_nat s k
  have e2 : bits .and .i64 (shr s k : Int) 1 = (band (shr s k) 1 : Int) := bits_and (shr s k) 1 (Nat.lt_of_le_of_lt (Nat.shiftRight_le _ _) (by omega)) (by omega)
  have e3 := testBit_shift s k
  go_enter Try.func110, Try.ntmps110
  go_wp2
  go_ret
  exact ⟨rfl, rfl⟩
theorem l1Bit_c (s k : Nat) (hs : s < 2 ^ 62) (hk : k ≤ 62) (w : World) :
    Calls Try.prog 48 #[.int .i64 s, .int .i64 k] w fun e w' => e = .returned (.int .i64 ((s.testBit k).toNat : Nat)) ∧ w = w' := by
  have e0 : min k 64 = k := by omega
  have e1 := div_pow_nat s k
  have e2 : bits .and .i64 (shr s k : Int) 1 = (band (shr s k) 1 : Int) := bits_and (shr s k) 1 (Nat.lt_of_le_of_lt (Nat.shiftRight_le _ _) (by omega)) (by omega)
  have e3 := bit_shift s k
  go_enter Try.func48, Try.ntmps48
  go_wp2
  go_ret
  exact ⟨rfl, rfl⟩
theorem pow_cast (n : Nat) : (2 : Int) ^ n = ((2 ^ n : Nat) : Int) := by simp
theorem pow_var (n : Nat) (h : n ≤ 62) : ∃ p : Nat, 2 ^ n = p ∧ (2 : Int) ^ n = (p : Int) ∧ 1 ≤ p ∧ p ≤ 4611686018427387904 := by
  refine ⟨2 ^ n, rfl, pow_cast n, Nat.one_le_two_pow, ?_⟩
  have : 2 ^ n ≤ 2 ^ 62 := Nat.pow_le_pow_right (by omega) h
  omega
theorem isSet_c (s : Int) (n : Nat) (hn : n ≤ 62) (w : World) :
    Calls Try.prog 76 #[.int .i64 s, .int .i64 n] w fun e w' => e = .returned (.bool (setB s n)) ∧ w = w' := by
  obtain ⟨p, hp, hp1, hp2, hp3⟩ := pow_var n hn
  have HP := Lib.hid hp; clear hp
  have e0 : min n 64 = n := by omega
  go_enter Try.func76, Try.ntmps76
  go_wp2_with (go_at_call 100; refine (in_c _ _ _ _).mono ?_; rintro e w' ⟨rfl, rfl⟩)
  go_ret
  exact ⟨by unfold setB; rw [HP.out]; rfl, rfl⟩

set_option maxHeartbeats 400000 in
theorem pop64_c (x : Nat) (hx : x < 2 ^ 63) (w : World) :
    Calls Try.prog 120 #[.int .u64 x] w fun e w' => e = .returned (.int .i64 (pop64 x : Nat)) ∧ w = w' := by
  obtain ⟨a1, hA1⟩ : ∃ a, a = band (x / 2) 6148914691236517205 := ⟨_, rfl⟩
  obtain ⟨b1, hB1⟩ : ∃ a, a = band x 6148914691236517205 := ⟨_, rfl⟩
  have k1 : a1 ≤ 6148914691236517205 := by rw [hA1]; exact band_le _ _
  have l1 : b1 ≤ 6148914691236517205 := by rw [hB1]; exact band_le _ _
  obtain ⟨a2, hA2⟩ : ∃ a, a = band ((a1 + b1) / 4) 3689348814741910323 := ⟨_, rfl⟩
  obtain ⟨b2, hB2⟩ : ∃ a, a = band (a1 + b1) 3689348814741910323 := ⟨_, rfl⟩
  have k2 : a2 ≤ 3689348814741910323 := by rw [hA2]; exact band_le _ _
  have l2 : b2 ≤ 3689348814741910323 := by rw [hB2]; exact band_le _ _
  obtain ⟨a3, hA3⟩ : ∃ a, a = band ((a2 + b2) / 16 + (a2 + b2)) 1085102592571150095 := ⟨_, rfl⟩
  have k3 : a3 ≤ 1085102592571150095 := by rw [hA3]; exact band_le _ _
  obtain ⟨a4, hA4⟩ : ∃ a, a = a3 + a3 / 256 := ⟨_, rfl⟩
  obtain ⟨a5, hA5⟩ : ∃ a, a = a4 + a4 / 65536 := ⟨_, rfl⟩
  obtain ⟨a6, hA6⟩ : ∃ a, a = a5 + a5 / 4294967296 := ⟨_, rfl⟩
  have hfin : pop64 x = band a6 127 := by rw [hA6, hA5, hA4, hA3, hB2, hA2, hB1, hA1]; rfl
  have e1 : bits .and .u64 ((x : Int) / 2) 6148914691236517205 = (a1 : Int) := by rw [hA1]; exact bits_and_u64 (x / 2) 6148914691236517205 (by omega) (by decide)
  have e2 : bits .and .u64 (x : Int) 6148914691236517205 = (b1 : Int) := by rw [hB1]; exact bits_and_u64 x 6148914691236517205 hx (by decide)
  have e3 : bits .and .u64 (((a1 : Int) + b1) / 4) 3689348814741910323 = (a2 : Int) := by rw [hA2]; exact bits_and_u64 ((a1 + b1) / 4) 3689348814741910323 (by omega) (by decide)
  have e4 : bits .and .u64 ((a1 : Int) + b1) 3689348814741910323 = (b2 : Int) := by
    rw [hB2]
    unfold bits
    show IntKind.u64.wrap ((BitVec.ofInt 64 ((a1 + b1 : Nat) : Int) &&& BitVec.ofInt 64 ((3689348814741910323 : Nat) : Int)).toNat : Int) = _
    rw [BitVec.toNat_and, toNat_ofInt_u64 _ (by omega), toNat_ofInt_u64 _ (by decide)]
    have : a1 + b1 &&& 3689348814741910323 ≤ 3689348814741910323 := Nat.and_le_right
    exact IntWalk.u64_in _ (by omega)
  have e5 : bits .and .u64 (((a2 : Int) + b2) / 16 + (a2 + b2)) 1085102592571150095 = (a3 : Int) := by rw [hA3]; exact bits_and_u64 ((a2 + b2) / 16 + (a2 + b2)) 1085102592571150095 (by omega) (by decide)
  have k6 : a6 < 2 ^ 63 := by omega
  have e6 : bits .and .i64 ((a3 : Int) + a3 / 256 + (a3 + a3 / 256) / 65536 + (a3 + a3 / 256 + (a3 + a3 / 256) / 65536) / 4294967296) 127 = (band a6 127 : Int) := by
    have := bits_and a6 127 k6 (by decide)
    rw [← this, hA6, hA5, hA4]
    simp
  have HF := Lib.hid hfin
  clear hfin hA1 hA2 hA3 hA4 hA5 hA6 hB1 hB2
  go_enter Try.func120, Try.ntmps120
  go_wp2
  go_ret
  rw [HF.out]
  exact ⟨rfl, rfl⟩
theorem size_c (s : Nat) (hs : s < 2 ^ 63) (w : World) :
    Calls Try.prog 57 #[.int .i64 s] w fun e w' => e = .returned (.int .i64 (pop64 s : Nat)) ∧ w = w' := by
  go_enter Try.func57, Try.ntmps57
  go_wp2_with (first | (go_at_call 120; refine (pop64_c _ hs _).mono ?_; rintro e w' ⟨rfl, rfl⟩) | (go_at_call 98; go_in))
  go_ret
  exact ⟨rfl, rfl⟩
end Go.Proofs.Ytpmammklklkheaa

/- The contracts of the loops over a slice of integers: equal lists, marks, a function's answer on each, and the reference's counts. No condition but the bounds that each names. -/
namespace Go.Proofs.Ytpmammklklkheaa
open Go.RowKit
open BigFrame

theorem set_next (xs : List Int) (k : Nat) (h : k < xs.length) : (xs.take k ++ List.replicate (xs.length - k) 0).set k (xs.getD k 0) = xs.take (k + 1) ++ List.replicate (xs.length - (k + 1)) 0 := by
  rw [List.set_append_right _ _ (by simp; omega)]
  rw [show xs.length - k = (xs.length - (k + 1)) + 1 from by omega, List.replicate_succ, List.length_take, show k - min k xs.length = 0 from by omega, List.set_cons_zero]
  rw [List.take_succ_eq_append_getElem h]
  simp [h, List.append_assoc, -List.take_append_getElem]

theorem eq_lists {xs ys : List Int} (hl : xs.length = ys.length) (h : ∀ j, j < xs.length → xs.getD j 0 = ys.getD j 0) : (xs == ys) = true := by
  rw [beq_iff_eq]
  apply List.ext_getElem hl
  intro i h1 h2
  have := h i h1
  simpa [h1, h2] using this
theorem ne_lists {xs ys : List Int} {k : Nat} (h : xs.getD k 0 ≠ ys.getD k 0) : (xs == ys) = false := by
  rw [beq_eq_false_iff_ne]
  rintro rfl
  exact h rfl
theorem ret_bool {a b : Bool} (h : a = b) : Ending.returned (.bool a) = .returned (.bool b) := by rw [h]
theorem ret_int {k : IntKind} {a b : Int} (h : a = b) : Ending.returned (.int k a) = .returned (.int k b) := by rw [h]

/-- The numbers from k on. -/
def upFrom (k n : Nat) : List Int := (List.range n).map fun i => ((k + i : Nat) : Int)
theorem upFrom_length (k n : Nat) : (upFrom k n).length = n := by simp [upFrom]
theorem upFrom_get (k n i : Nat) (h : i < n) : (upFrom k n).getD i 0 = ((k + i : Nat) : Int) := by simp [upFrom, h]
theorem mark_next (xs : List Int) (k j : Nat) (h : j < xs.length) : (upFrom k j ++ xs.drop j).set j ((k + j : Nat) : Int) = upFrom k (j + 1) ++ xs.drop (j + 1) := by
  rw [List.set_append_right _ _ (by simp [upFrom_length])]
  rw [upFrom_length, Nat.sub_self, List.drop_eq_getElem_cons h, List.set_cons_zero]
  unfold upFrom
  rw [List.range_succ]
  simp

/-- The place of the first number for which p holds, or -1. -/
def firstAt (p : Int → Bool) : Nat → List Int → Int
  | _, [] => -1
  | k, x :: r => if p x then (k : Int) else firstAt p (k + 1) r
theorem firstAt_any (p : Int → Bool) (l : List Int) (k : Nat) : decide (0 ≤ firstAt p k l) = l.any p := by
  induction l generalizing k with
  | nil => simp [firstAt]
  | cons x r ih =>
    unfold firstAt
    rw [List.any_cons]
    cases hp : p x
    · simp [ih]
    · simp
theorem firstAt_of (p : Int → Bool) (l : List Int) (k : Nat) (hk : k < l.length) (h : ∀ j, j < k → p (l.getD j 0) = false) (hp : p (l.getD k 0) = true) : ∀ m, firstAt p m l = (m + k : Nat) := by
  induction l generalizing k with
  | nil => simp at hk
  | cons x r ih =>
    intro m
    unfold firstAt
    cases k with
    | zero => simp at hp; simp [hp]
    | succ k =>
      have h0 := h 0 (by omega)
      simp at h0
      rw [h0]
      simp only [Bool.false_eq_true, if_false]
      rw [ih k (by simpa using hk) (fun j hj => by simpa using h (j + 1) (by omega)) (by simpa using hp) (m + 1)]
      congr 1; omega
theorem firstAt_none (p : Int → Bool) (l : List Int) (h : ∀ j, j < l.length → p (l.getD j 0) = false) : ∀ m, firstAt p m l = -1 := by
  induction l with
  | nil => intro m; rfl
  | cons x r ih =>
    intro m
    unfold firstAt
    have h0 := h 0 (by simp)
    simp at h0
    rw [h0]
    simp only [Bool.false_eq_true, if_false]
    exact ih (fun j hj => by simpa using h (j + 1) (by simpa using hj)) (m + 1)

set_option maxHeartbeats 400000 in
theorem indexFunc_c (v : Value) (xs : List Int) (K : Nat) (cap : Array Value) (p : Int → Bool) (w : World) (hv : Rd w v xs) (hm : xs.length ≤ 1048576)
    (eg : ∀ args w, (callFunc K args).run Try.prog w = .ok (.enter K args) w)
    (hf : ∀ x, x ∈ xs → ∀ w', Ext w w' → Calls Try.prog K (#[.int .i64 x] ++ cap) w' fun e w'' => e = .returned (.bool (p x)) ∧ Ext w' w'') :
    Calls Try.prog 126 #[v, .func (.func K) #[] cap] w fun e w' => e = .returned (.int .i64 (firstAt p 0 xs)) ∧ Ext w w' := by
  obtain ⟨a, c, rfl⟩ := hv.form
  have HV := Lib.hid hv; clear hv
  have HF := Lib.hid hf; clear hf
  go_enter Try.func126, Try.ntmps126
  go_wp2
  go_loopw [8] (fun i wr => ∃ k : Nat, k ≤ xs.length ∧ i = .int .i64 k ∧ (∀ j, j < k → p (xs.getD j 0) = false) ∧ Ext w wr) (fun i _ => xs.length - (intOf i).toNat)
  case atStart => exact ⟨0, Nat.zero_le _, rfl, by simp, Ext.refl _⟩
  case round =>
    obtain ⟨k, hk, rfl, hj, hx⟩ := hrel
    have HJ := Lib.hid hj; clear hj
    have HX := Lib.hid hx; clear hx
    by_cases hlt : k < xs.length
    · obtain ⟨b, o, rfl, -, -, hc⟩ := HV.out.at hlt
      replace hc := hc _ HX.out
      have HF1 := HF.out xs[k] (List.getElem_mem hlt) wr HX.out
      cases hp : p xs[k] <;> rw [hp] at HF1
      · go_wp2_with fail
        refine HF1.mono ?_
        rintro e w' ⟨rfl, hx'⟩
        go_wp2
        go_roundw
        case rel => exact ⟨k + 1, by omega, by go_num, fun j hj => by
          by_cases h : j = k
          · subst h; simpa [hlt] using hp
          · exact HJ.out j (by omega), HX.out.trans hx'⟩
        case measure => simp [intOf]; omega
      · go_wp2_with fail
        refine HF1.mono ?_
        rintro e w' ⟨rfl, hx'⟩
        go_wp2
        go_ret
        exact ⟨ret_int (by rw [firstAt_of p xs k hlt HJ.out (by simpa [hlt] using hp) 0]; simp), HX.out.trans hx'⟩
    · go_wp2
      go_ret
      obtain rfl : k = xs.length := by omega
      exact ⟨ret_int (firstAt_none p xs HJ.out 0).symm, HX.out⟩

theorem containsFunc_c (v : Value) (xs : List Int) (K : Nat) (cap : Array Value) (p : Int → Bool) (w : World) (hv : Rd w v xs) (hm : xs.length ≤ 1048576)
    (eg : ∀ args w, (callFunc K args).run Try.prog w = .ok (.enter K args) w)
    (hf : ∀ x, x ∈ xs → ∀ w', Ext w w' → Calls Try.prog K (#[.int .i64 x] ++ cap) w' fun e w'' => e = .returned (.bool (p x)) ∧ Ext w' w'') :
    Calls Try.prog 112 #[v, .func (.func K) #[] cap] w fun e w' => e = .returned (.bool (xs.any p)) ∧ Ext w w' := by
  have C := indexFunc_c v xs K cap p w hv hm eg hf
  have HA := Lib.hid (firstAt_any p xs 0)
  generalize firstAt p 0 xs = q at *
  have HC := Lib.hid C; clear C hf hv eg
  go_enter Try.func112, Try.ntmps112
  go_wp2_with (go_at_call 126; refine HC.out.mono ?_; rintro e w' ⟨rfl, hx⟩)
  go_ret
  exact ⟨ret_bool HA.out, by assumption⟩

theorem isKind_c (k : Int) (w : World) :
    Calls Try.prog 75 #[.int .i64 k] w fun e w' => e = .returned (.bool (inB 0 k 3)) ∧ w = w' := by
  go_enter Try.func75, Try.ntmps75
  go_wp2_with (go_at_call 100; refine (in_c _ _ _ _).mono ?_; rintro e w' ⟨rfl, rfl⟩)
  go_ret
  exact ⟨rfl, rfl⟩
theorem l2Kind_c (k : Int) (w : World) :
    Calls Try.prog 103 #[.int .i64 k] w fun e w' => e = .returned (.bool (inB 0 k 3)) ∧ w = w' := by
  go_enter Try.func103, Try.ntmps103
  go_wp2_with (go_at_call 65; refine (l6In_c _ _ _ _).mono ?_; rintro e w' ⟨rfl, rfl⟩)
  go_ret
  exact ⟨rfl, rfl⟩
theorem isFew_c (k : Int) (w : World) :
    Calls Try.prog 83 #[.int .i64 k] w fun e w' => e = .returned (.bool (inB 0 k 3)) ∧ w = w' := by
  go_enter Try.func83, Try.ntmps83
  go_wp2_with (go_at_call 100; refine (in_c _ _ _ _).mono ?_; rintro e w' ⟨rfl, rfl⟩)
  go_ret
  exact ⟨rfl, rfl⟩
theorem isBorne_c (k : Int) (w : World) :
    Calls Try.prog 60 #[.int .i64 k] w fun e w' => e = .returned (.bool (inB 0 k 4)) ∧ w = w' := by
  go_enter Try.func60, Try.ntmps60
  go_wp2_with (go_at_call 100; refine (in_c _ _ _ _).mono ?_; rintro e w' ⟨rfl, rfl⟩)
  go_ret
  exact ⟨rfl, rfl⟩
theorem l2Set_c (v : Value) (g : List Int) (code : Int) (w : World) (hv : Rd w v g) (hg : g.length ≤ 62) :
    Calls Try.prog 64 #[v, .int .i64 code] w fun e w' => e = .returned (.bool (setB code g.length)) ∧ w = w' := by
  obtain ⟨a, c, rfl⟩ := hv.form
  clear hv
  obtain ⟨p, hp, hp1, hp2, hp3⟩ := pow_var g.length hg
  have HP := Lib.hid hp; clear hp
  have e0 : min g.length 64 = g.length := by omega
  go_enter Try.func64, Try.ntmps64
  go_wp2_with (go_at_call 65; refine (l6In_c _ _ _ _).mono ?_; rintro e w' ⟨rfl, rfl⟩)
  go_ret
  exact ⟨by unfold setB; rw [HP.out]; rfl, rfl⟩

/-- How many of the first k nodes are in a set. -/
def cntTo (s k : Nat) : Nat := (List.range k).countP fun i => s.testBit i
theorem cntTo_succ (s k : Nat) : cntTo s (k + 1) = cntTo s k + (s.testBit k).toNat := by
  unfold cntTo
  rw [List.range_succ, List.countP_append]
  cases h : s.testBit k <;> simp [h]
theorem cntTo_le (s k : Nat) : cntTo s k ≤ k := by
  unfold cntTo
  exact Nat.le_trans List.countP_le_length (by simp)
set_option maxHeartbeats 400000 in
theorem l1Count_c (s : Nat) (hs : s < 2 ^ 62) (w : World) :
    Calls Try.prog 70 #[.int .i64 s] w fun e w' => e = .returned (.int .i64 (cnt s : Nat)) ∧ w = w' := by
  go_enter Try.func70, Try.ntmps70
  go_wp2
  go_loop [3, 4] (fun n i => ∃ k : Nat, k ≤ 12 ∧ i = .int .i64 k ∧ n = .int .i64 (cntTo s k : Nat)) (fun _ i => 12 - (intOf i).toNat)
  case atStart => exact ⟨0, Nat.zero_le _, rfl, rfl⟩
  case round =>
    obtain ⟨k, hk, rfl, rfl⟩ := hrel
    have h1 := cntTo_le s k
    have h2 : (s.testBit k).toNat ≤ 1 := by cases s.testBit k <;> decide
    have H3 := Lib.hid (cntTo_succ s k)
    generalize hq : cntTo s k = q at *
    have H4 := Lib.hid hq; clear hq
    by_cases hlt : k < 12
    · go_wp2_with (go_at_call 48; refine (l1Bit_c s k hs (by omega) _).mono ?_; rintro e w' ⟨rfl, rfl⟩)
      go_round
      case rel => exact ⟨k + 1, by omega, by go_num, by rw [H3.out]; go_num⟩
      case measure => simp [intOf]; omega
    · go_wp2
      go_ret
      obtain rfl : k = 12 := by omega
      exact ⟨by rw [← H4.out]; rfl, rfl⟩
theorem sizeC (m : Nat) (hm : m ≤ 4095) (w : World) : Calls Try.prog 57 #[.int .i64 m] w fun e w' => e = .returned (.int .i64 (cnt m : Nat)) ∧ w = w' := by
  have h := size_c m (by omega) w
  rwa [pop64_small m (by omega)] at h

end Go.Proofs.Ytpmammklklkheaa

/- A range over a function whose iterator hands over, one after the other, the numbers k below N for which p holds: the loop's law, and the way out of a function that holds such loops. No condition. -/
namespace Go.Proofs.Ytpmammklklkheaa
open Go.RowKit

variable {P : Program}

/-- W' is W but for new blocks, and for what is no cells and lies at or beyond B: the books of loops. -/
structure Book (B : Nat) (W W' : World) : Prop where
  os : W'.os = W.os
  tape : W'.tape = W.tape
  output : W'.output = W.output
  size : W.heap.size ≤ W'.heap.size
  block : ∀ k o, W.heap[k]? = some o → (k < B ∨ o.isCells = true) → W'.heap[k]? = some o
theorem Book.refl (B : Nat) (W : World) : Book B W W := ⟨rfl, rfl, rfl, Nat.le_refl _, fun _ _ h _ => h⟩
theorem Book.trans {B : Nat} {X Y Z : World} (h : Book B X Y) (k : Book B Y Z) : Book B X Z :=
  ⟨k.os.trans h.os, k.tape.trans h.tape, k.output.trans h.output, Nat.le_trans h.size k.size, fun i o hi ho => k.block i o (h.block i o hi ho) ho⟩
theorem Book.alloc (B : Nat) (W : World) (o : Obj) : Book B W (W.alloc o) :=
  ⟨rfl, rfl, rfl, by simp, fun k _ hk _ => (Below.heap_alloc W o k (Array.getElem?_eq_some_iff.1 hk).1).trans hk⟩
theorem Book.putObj {B : Nat} {W : World} {l : Nat} {o : Obj} (o' : Obj) (hB : B ≤ l) (hl : W.heap[l]? = some o) (ho : o.isCells = false) : Book B W (W.putObj l o') :=
  ⟨rfl, rfl, rfl, by simp, fun k u hk hu => (World.putObj_heap_other (fun e => by
    subst e
    rw [hl] at hk
    obtain rfl := Option.some.inj hk
    rcases hu with hu | hu
    · omega
    · rw [ho] at hu; cases hu)).trans hk⟩
theorem Book.of_ext {B : Nat} {W W' : World} (h : Ext W W') : Book B W W' :=
  ⟨h.os, h.tape, h.output, h.size, fun _ _ hk _ => (Ext.block h (Array.getElem?_eq_some_iff.1 hk).1).trans hk⟩
theorem Book.mono {B B' : Nat} {W W' : World} (h : Book B W W') (hB : B' ≤ B) : Book B' W W' :=
  ⟨h.os, h.tape, h.output, h.size, fun k o hk ho => h.block k o hk (ho.imp (fun h => Nat.lt_of_lt_of_le h hB) id)⟩
theorem Ext.book {B : Nat} {w W W' : World} (h : Ext w W) (hB : w.heap.size ≤ B) (hk : Book B W W') : Ext w W' :=
  ⟨hk.os.trans h.os, hk.tape.trans h.tape, hk.output.trans h.output, Nat.le_trans h.size hk.size, fun i hi => by
    rw [← Below.block h i hi]
    have hi' : i < W.heap.size := Nat.lt_of_lt_of_le hi h.size
    exact (hk.block i _ (Array.getElem?_eq_getElem hi') (.inl (Nat.lt_of_lt_of_le hi hB))).trans (Array.getElem?_eq_getElem hi').symm⟩
theorem Below.book {B b : Nat} {w W W' : World} (h : Below b w W) (hb : b ≤ w.heap.size) (hB : b ≤ B) (hk : Book B W W') : Below b w W' :=
  ⟨hk.os.trans h.os, hk.tape.trans h.tape, hk.output.trans h.output, Nat.le_trans h.size hk.size, fun i hi => by
    rw [← Below.block h i hi]
    have hi' : i < W.heap.size := Nat.lt_of_lt_of_le (Nat.lt_of_lt_of_le hi hb) h.size
    exact (hk.block i _ (Array.getElem?_eq_getElem hi') (.inl (Nat.lt_of_lt_of_le hi hB))).trans (Array.getElem?_eq_getElem hi').symm⟩
theorem Book.cell {B : Nat} {W W' : World} (h : Book B W W') {a : Addr} {v : Value} (hv : W.cell? a = some v) : W'.cell? a = some v := by
  obtain ⟨o, ho, hc⟩ := cells_of_cell hv
  have := h.block a.block o ho (.inr hc)
  exact (World.cell?_of_block (this.trans ho.symm)).trans hv
theorem Book.frozen {B : Nat} {W W' : World} (h : Book B W W') {a : Addr} {v : Value} (hv : W.cell? a = some v) (hf : W.frozen? a = false) : W'.frozen? a = false := by
  obtain ⟨o, ho, hc⟩ := cells_of_cell hv
  have := h.block a.block o ho (.inr hc)
  exact (World.frozen?_of_block (this.trans ho.symm)).trans hf
theorem Rd.book {B : Nat} {W W' : World} (h : Book B W W') {v : Value} {xs : List Int} (hv : Rd W v xs) : Rd W' v xs := by
  obtain ⟨a, c, rfl, hv⟩ := hv
  refine ⟨a, c, rfl, hv.imp id ?_⟩
  rintro ⟨b, o, rfl, hb, hc, hv⟩
  exact ⟨b, o, rfl, Nat.lt_of_lt_of_le hb h.size, hc, fun i hi => h.cell (hv i hi)⟩
theorem Own.book {B : Nat} {W W' : World} (h : Book B W W') {base : Nat} {v : Value} {xs : List Int} (hv : Own W base v xs) : Own W' base v xs := by
  obtain ⟨h1, h2⟩ := hv
  refine ⟨h1, ?_⟩
  rcases h2 with h2 | ⟨g, cap, cur, hv, hg, hh, r⟩
  · exact Or.inl h2
  · exact Or.inr ⟨g, cap, cur, hv, hg, h.block g _ hh (.inr rfl), r⟩

/-- The marks that loops have left among the activation's deferred calls: each names a block that holds none. -/
def Marks (B : Nat) (W : World) (ds : List Deferred) : Prop :=
  ∃ Ds : List Nat, ds = Ds.map (fun D => { target := .collected D, args := #[] }) ∧ Ds.Nodup ∧ ∀ D ∈ Ds, B ≤ D ∧ W.heap[D]? = some (.deferred (some []))
theorem Marks.nil (B : Nat) (W : World) : Marks B W [] := ⟨[], rfl, List.nodup_nil, fun _ h => by cases h⟩
theorem Marks.cons {B : Nat} {W : World} {ds : List Deferred} {D n : Nat} (h : Marks B W ds) (hlt : ∀ k, (∃ d ∈ ds, d.target = .collected k) → k < n) (hn : n ≤ D) (hB : B ≤ D) (hD : W.heap[D]? = some (.deferred (some []))) :
    Marks B W ({ target := .collected D, args := #[] } :: ds) := by
  obtain ⟨Ds, rfl, hnd, hall⟩ := h
  refine ⟨D :: Ds, rfl, List.nodup_cons.2 ⟨fun hm => ?_, hnd⟩, fun k hk => ?_⟩
  · have := hlt D ⟨_, List.mem_map.2 ⟨D, hm, rfl⟩, rfl⟩
    omega
  · rcases List.mem_cons.1 hk with rfl | hk
    · exact ⟨hB, hD⟩
    · exact hall k hk
theorem Marks.lt {B : Nat} {W : World} {ds : List Deferred} (h : Marks B W ds) : ∀ k, (∃ d ∈ ds, d.target = .collected k) → k < W.heap.size := by
  obtain ⟨Ds, rfl, hnd, hall⟩ := h
  rintro k ⟨d, hd, e⟩
  obtain ⟨D, hD, rfl⟩ := List.mem_map.1 hd
  simp only [Target.collected.injEq] at e
  subst e
  exact (Array.getElem?_eq_some_iff.1 (hall _ hD).2).1
theorem Marks.keep {B : Nat} {W W' : World} {ds : List Deferred} (h : Marks B W ds) (hk : ∀ k : Nat, W.heap[k]? = some (Obj.deferred (some [])) → W'.heap[k]? = some (Obj.deferred (some []))) : Marks B W' ds := by
  obtain ⟨Ds, rfl, hnd, hall⟩ := h
  exact ⟨Ds, rfl, hnd, fun D hD => ⟨(hall D hD).1, hk D (hall D hD).2⟩⟩
theorem Marks.ext {B : Nat} {W W' : World} {ds : List Deferred} (h : Marks B W ds) (hx : Ext W W') : Marks B W' ds :=
  h.keep fun _ hk => (hx.block (Array.getElem?_eq_some_iff.1 hk).1).trans hk
theorem Marks.setCell {B : Nat} {W : World} {ds : List Deferred} (h : Marks B W ds) (a : Addr) (v : Value) : Marks B (W.setCell a v) ds :=
  h.keep fun k hk => (KeepsOthers.setCell W a v).same k _ hk rfl
theorem Marks.book {B B' : Nat} {W W' : World} {ds : List Deferred} (h : Marks B W ds) (hk : Book B' W W') (hlt : ∀ k, (∃ d ∈ ds, d.target = .collected k) → k < B') : Marks B W' ds := by
  obtain ⟨Ds, rfl, hnd, hall⟩ := h
  exact ⟨Ds, rfl, hnd, fun D hD => ⟨(hall D hD).1, hk.block D _ (hall D hD).2 (.inl (hlt D ⟨_, List.mem_map.2 ⟨D, hD, rfl⟩, rfl⟩))⟩⟩

/-- The way out of a function that holds such loops. -/
theorem leaves_marks {n : Nat} {fn : Func} {tmps : Array Value} {R : Ending → World → Prop} {B : Nat} (v : Value) : ∀ (ds : List Deferred) (W : World), Marks B W ds →
    (∀ W', Book B W W' → (results fn tmps).run P W' = .ok v W' ∧ R (.returned v) W') → LeavesInM Fence.wide n P fn tmps R ds .returning W := by
  intro ds
  induction ds with
  | nil =>
    intro W _ h
    obtain ⟨h1, h2⟩ := h W (Book.refl _ _)
    exact ⟨v, h1, h2⟩
  | cons d ds ih =>
    rintro W ⟨Ds, hds, hnd, hall⟩ h
    cases Ds with
    | nil => cases hds
    | cons D Ds =>
      simp only [List.map_cons, List.cons.injEq] at hds
      obtain ⟨rfl, rfl⟩ := hds
      obtain ⟨hB, hD⟩ := hall D (List.mem_cons_self ..)
      have hnd' := List.nodup_cons.1 hnd
      refine ⟨by simp, .inl ⟨D, _, rfl, run_takeDeferred hD, ih _ ⟨Ds, rfl, hnd'.2, fun k hk => ⟨(hall k (List.mem_cons_of_mem _ hk)).1, ?_⟩⟩ fun W' hW' => h W' ((Book.putObj _ hB hD rfl).trans hW')⟩⟩
      rw [World.putObj_heap_other (fun e => hnd'.1 (by rw [← e]; exact hk))]
      exact (hall k (List.mem_cons_of_mem _ hk)).2

/-- A function's contract from its body, where the body holds such loops. -/
theorem calls_marks {f : FuncId} {fn : Func} {c : Code} {args : Array Value} {w : World} {R : Ending → World → Prop}
    (hf : P.funcs[f]? = some fn) (hb : fn.body = some c)
    (h : c.wp P (bodyPostM Fence.wide 0 P fn R) { tmps := args ++ Array.replicate (fn.ntmps - args.size) undef, defers := [] } w) : Calls P f args w R :=
  (callsIn_wide (n := 0)).1 (callsIn_of_wp_marks hf hb trivial (wpIn_wide.2 h))

/-- What the iterator value K, with what it has captured lb, hands over: the numbers k below N for which p holds, one after the other; Ki: what it reads between two rounds. -/
def Iter (P : Program) (K : Nat) (lb : Array Value) (p : Nat → Bool) (N : Nat) (Ki : World → Prop) : Prop :=
  ∀ (l : Nat) (J : Nat → World → Prop) (Jx : World → Prop) (W : World),
    (∀ k W W', Ext W W' → J k W → J k W') → (∀ k W, J k W → Ki W) →
    (∀ k W, k < N → p k = true → J k W → YieldAt Fence.wide 0 P l #[.int .i64 (k : Nat)] W fun e W' => (e = .returned (.bool true) ∧ J (k + 1) W') ∨ (e = .returned (.bool false) ∧ Jx W')) →
    (∀ k W, k < N → p k = false → J k W → J (k + 1) W) →
    J 0 W →
    CallsIn Fence.wide 0 P K (#[.func (.yield l) #[] #[]] ++ lb) W fun e W' => (∃ v, e = .returned v) ∧ (J N W' ∨ Jx W')

/-- How the body of a round may be left. -/
def roundEnd (B : Nat) (I : World → Prop) (Ix : Code → World → Prop) (W : World) : Exit → Act → World → Prop
  | .normal, _, W' => KeepsFrom B W W' ∧ I W'
  | .ret, _, W' => KeepsFrom B W W' ∧ Ix .ret W'
  | .exit id, _, W' => KeepsFrom B W W' ∧ Ix (.exit id) W'
  | .goto t, _, W' => KeepsFrom B W W' ∧ Ix (.goto t) W'
  | .panic _, _, _ => False
  | .outgrown, _, _ => False
theorem KeepsFrom.of_ext {B : Nat} {W W' : World} (h : Ext W W') : KeepsFrom B W W' :=
  ⟨h.size, fun _ _ _ hk _ => (h.block (Array.getElem?_eq_some_iff.1 hk).1).trans hk⟩
theorem KeepsFrom.setCell' (B : Nat) (W : World) (a : Addr) (v : Value) : KeepsFrom B W (W.setCell a v) := (KeepsOthers.setCell W a v).from B

/-- The loop over such an iterator. -/
theorem wp_range {g : Operand} {ps : Array Tmp} {assign body : Code} {Q : Exit → Act → World → Prop} {a : Act} {w : World}
    {K : Nat} {lb : Array Value} {p : Nat → Bool} {N : Nat} {Ki : World → Prop} (hit : Iter P K lb p N Ki)
    (hg : a.eval g = .func (.func K) #[] lb) (eg : ∀ args w, (callFunc K args).run P w = .ok (.enter K args) w) (hps : ps.size = 1)
    (I : Nat → World → Prop) (Ix : Code → World → Prop) (hI : ∀ k W W', Book w.heap.size W W' → I k W → I k W') (hIx : ∀ c W W', Book w.heap.size W W' → Ix c W → Ix c W')
    (hKi : ∀ k W, I k W → Ki W) (h0 : I 0 w)
    (hskip : ∀ k W, k < N → p k = false → I k W → I (k + 1) W)
    (hround : ∀ (l k : Nat) (W : World), k < N → p k = true → I k W → w.heap.size < W.heap.size →
      assign.wpIn (FW (some l)) 0 P (Exit.then (fun a' W' => KeepsFrom w.heap.size W W' ∧ ∀ W'', Book w.heap.size W' W'' → body.wpIn (FW (some l)) 0 P (roundEnd w.heap.size (I (k + 1)) Ix W'') a' W'') (fun _ _ _ => False))
        { tmps := (ps.zip #[Value.int .i64 (k : Nat)]).foldl (fun t (p, v) => t.setIfInBounds p v) a.tmps, defers := [] } W)
    (hdone : ∀ (D : Nat) (W : World), w.heap.size ≤ D → I N W → W.heap[D]? = some (.deferred (some [])) → Q .normal { a with defers := { target := .collected D, args := #[] } :: a.defers } W)
    (hstop : ∀ (D : Nat) (c : Code) (W : World), w.heap.size ≤ D → Ix c W → W.heap[D]? = some (.deferred (some [])) → c.wp P Q { a with defers := { target := .collected D, args := #[] } :: a.defers } W) :
    (Code.rangeFunc g ps assign body).wp P Q a w := by
  refine wpIn_wide (n := 0) |>.1 (wpIn_rangeFunc ?_)
  intro fn hfn
  obtain ⟨rec, hrec⟩ : ∃ rec : LoopState → Option Code → Loop, rec = fun st pe => { state := st, pending := pe, fn, tmps := a.tmps, params := ps, assign, body, defers := w.heap.size } := ⟨_, rfl⟩
  obtain ⟨W1, hW1⟩ : ∃ W1, (w.alloc (.deferred (some []))).alloc (.loop (rec .ready none)) = W1 := ⟨_, rfl⟩
  have hL1 : W1.heap[w.heap.size + 1]? = some (.loop (rec .ready none)) := by
    rw [← hW1]; have := World.alloc_heap_new (w.alloc (.deferred (some []))) (.loop (rec .ready none)); rwa [World.size_alloc] at this
  have hK1 : W1.heap[w.heap.size]? = some (.deferred (some [])) := by
    rw [← hW1]; exact (Below.heap_alloc _ _ _ (by simp)).trans (World.alloc_heap_new w _)
  have hI1 : I 0 W1 := by rw [← hW1]; exact hI _ _ _ (Book.alloc _ _ _) (hI _ _ _ (Book.alloc _ _ _) h0)
  refine ⟨w.heap.size + 1, [{ target := .collected w.heap.size, args := #[] }], W1, { target := .fn (.func K) lb, args := #[.func (.yield (w.heap.size + 1)) #[] #[]] }, W1, K,
    #[.func (.yield (w.heap.size + 1)) #[] #[]] ++ lb, W1, ?_, ?_, ?_, ?_, (fun h => by cases h), ?_⟩
  · rw [← hW1, hrec]; exact run_enterLoop_outer _ _ _ _ _
  · simp only [resolve, hg]
    simp [go_sem]
  · intro f' _; trivial
  · simp [invoke, go_sem, eg]
  · have hput : ∀ (W : World) (l : Nat) (o o' : Obj), w.heap.size ≤ l → W.heap[l]? = some o → o.isCells = false → Book w.heap.size W (W.putObj l o') := fun W l o o' hB hl ho => Book.putObj o' hB hl ho
    refine (hit (w.heap.size + 1)
      (fun k W => I k W ∧ W.heap[w.heap.size + 1]? = some (.loop (rec .ready none)) ∧ W.heap[w.heap.size]? = some (.deferred (some [])))
      (fun W => ∃ c, Ix c W ∧ W.heap[w.heap.size + 1]? = some (.loop (rec .done (some c))) ∧ W.heap[w.heap.size]? = some (.deferred (some [])))
      W1 ?_ (fun k W h => hKi k W h.1) ?_ (fun k W hk hp h => ⟨hskip k W hk hp h.1, h.2⟩) ⟨hI1, hL1, hK1⟩).mono ?_
    · rintro k W W' hx ⟨h1, h2, h3⟩
      exact ⟨hI _ _ _ (Book.of_ext hx) h1, (hx.block (Array.getElem?_eq_some_iff.1 h2).1).trans h2, (hx.block (Array.getElem?_eq_some_iff.1 h3).1).trans h3⟩
    · rintro k W hkN hpk ⟨hi, hl, hk⟩
      have hlt : w.heap.size + 1 < W.heap.size := (Array.getElem?_eq_some_iff.1 hl).1
      have hy := run_yield (P := P) (args := #[Value.int .i64 (k : Nat)]) hl (by rw [hrec]; exact hps.symm)
      rw [hrec] at hy
      refine ⟨fn, _, assign, body, hy, roundIn_of_wpIn hfn (wpIn_mono (hround (w.heap.size + 1) k W hkN hpk hi (by omega)) ?_)⟩
      clear hy
      rintro e0 a' Wa hq
      cases e0 with
      | normal => ?_
      | _ => exact hq
      obtain ⟨hka, hbody⟩ := hq
      have hla := hka.same _ _ (by omega) hl rfl
      have hda := hka.same _ _ (Nat.le_refl _) hk rfl
      have hlta : w.heap.size + 1 < Wa.heap.size := (Array.getElem?_eq_some_iff.1 hla).1
      refine ⟨_, run_beginRound hla (by rw [hrec]), ?_⟩
      have hl2 : (Wa.putObj (w.heap.size + 1) (.loop { rec .ready none with state := .busy })).heap[w.heap.size + 1]? = some (.loop { rec .ready none with state := .busy }) := World.putObj_heap_same hlta
      have hk2 : (Wa.putObj (w.heap.size + 1) (.loop { rec .ready none with state := .busy })).heap[w.heap.size]? = some (.deferred (some [])) := (World.putObj_heap_other (by omega)).trans hda
      have hb2 := hput Wa (w.heap.size + 1) _ (.loop { rec .ready none with state := .busy }) (by omega) hla rfl
      refine wpIn_mono (hbody _ hb2) ?_
      have fin : ∀ (jump : Option Code) (W3 : World), KeepsFrom w.heap.size (Wa.putObj (w.heap.size + 1) (.loop { rec .ready none with state := .busy })) W3 →
          (Instr.endRound (w.heap.size + 1) jump).run P W3 = .ok (.bool jump.isNone) (W3.putObj (w.heap.size + 1) (.loop (rec (if jump.isNone then .ready else .done) jump))) ∧
          W3.heap[w.heap.size + 1]? = some (.loop { rec .ready none with state := .busy }) ∧
          (W3.putObj (w.heap.size + 1) (.loop (rec (if jump.isNone then .ready else .done) jump))).heap[w.heap.size + 1]? = some (.loop (rec (if jump.isNone then .ready else .done) jump)) ∧
          (W3.putObj (w.heap.size + 1) (.loop (rec (if jump.isNone then .ready else .done) jump))).heap[w.heap.size]? = some (.deferred (some [])) := fun jump W3 hk3 => by
        have hl3 := hk3.same _ _ (by omega) hl2 rfl
        have := run_endRound (P := P) jump hl3
        rw [hrec] at this ⊢
        exact ⟨this, by rw [hrec] at hl3; exact hl3, World.putObj_heap_same (Array.getElem?_eq_some_iff.1 hl3).1, (World.putObj_heap_other (by omega)).trans (hk3.same _ _ (Nat.le_refl _) hk2 rfl)⟩
      rintro e a3 W3 hp
      cases e with
      | normal =>
        obtain ⟨hk3, hi3⟩ := hp
        obtain ⟨hr, hl3, hl4, hk4⟩ := fin none W3 hk3
        exact ⟨_, _, hr, .inl ⟨rfl, hI _ _ _ (hput _ _ _ _ (by omega) hl3 rfl) hi3, hl4, hk4⟩⟩
      | ret =>
        obtain ⟨hk3, hi3⟩ := hp
        obtain ⟨hr, hl3, hl4, hk4⟩ := fin (some .ret) W3 hk3
        exact ⟨_, _, hr, .inr ⟨rfl, .ret, hIx _ _ _ (hput _ _ _ _ (by omega) hl3 rfl) hi3, hl4, hk4⟩⟩
      | exit id =>
        obtain ⟨hk3, hi3⟩ := hp
        obtain ⟨hr, hl3, hl4, hk4⟩ := fin (some (.exit id)) W3 hk3
        exact ⟨_, _, hr, .inr ⟨rfl, .exit id, hIx _ _ _ (hput _ _ _ _ (by omega) hl3 rfl) hi3, hl4, hk4⟩⟩
      | goto t =>
        obtain ⟨hk3, hi3⟩ := hp
        obtain ⟨hr, hl3, hl4, hk4⟩ := fin (some (.goto t)) W3 hk3
        exact ⟨_, _, hr, .inr ⟨rfl, .goto t, hIx _ _ _ (hput _ _ _ _ (by omega) hl3 rfl) hi3, hl4, hk4⟩⟩
      | panic ch => exact hp.elim
      | outgrown => exact hp.elim
    · rintro e W2 ⟨⟨v, rfl⟩, (⟨hi, hl, hk⟩ | ⟨c, hi, hl, hk⟩)⟩
      · exact ⟨none, _, by have := run_endLoop (P := P) hl (by rw [hrec]; simp); rw [hrec] at this; exact this, hdone _ _ (Nat.le_refl _) (hI _ _ _ (hput _ _ _ _ (by omega) hl rfl) hi) ((World.putObj_heap_other (by omega)).trans hk)⟩
      · refine ⟨some c, _, by have := run_endLoop (P := P) hl (by rw [hrec]; simp); rw [hrec] at this; exact this, wpIn_wide.2 (hstop _ c _ (Nat.le_refl _) (hIx _ _ _ (hput _ _ _ _ (by omega) hl rfl) hi) ((World.putObj_heap_other (by omega)).trans hk))⟩
/-! ### A loop in whose round the activation's deferred calls may grow -/
/-- The frame l with the slots of ws as u says. -/
def fillFrom (ws : List Nat) (u : Nat → Value) : Nat → List Value → List Value
  | _, [] => []
  | i, x :: r => (if ws.contains i then u i else x) :: fillFrom ws u (i + 1) r
theorem fillFrom_same (ws : List Nat) : ∀ (l : List Value) (i : Nat) (u : Nat → Value), (∀ j, u (i + j) = l.getD j undef) → fillFrom ws u i l = l
  | [], _, _, _ => rfl
  | x :: r, i, u, h => by
    have h0 := h 0
    simp at h0
    unfold fillFrom
    rw [fillFrom_same ws r (i + 1) u (fun j => by have := h (j + 1); simpa [Nat.add_assoc, Nat.add_comm 1 j] using this), h0]
    simp
theorem wp_loop_marks {c : Code} {Q : Exit → Act → World → Prop} (ws : List Nat) (rel : (Nat → Value) → List Deferred → World → Prop) (mu : (Nat → Value) → World → Nat) {l : List Value} {ds : List Deferred} {w : World}
    (h0 : rel (fun i => l.getD i undef) ds w)
    (round : ∀ u ds w, rel u ds w → ∀ K : Act → World → Prop, Hid (∀ tmps ds' w', tmps = (fillFrom ws (fun i => tmps.getD i undef) 0 l).toArray → rel (fun i => tmps.getD i undef) ds' w' → mu (fun i => tmps.getD i undef) w' < mu u w → K { tmps := tmps, defers := ds' } w') →
      c.wp P (Exit.then K Q) { tmps := (fillFrom ws u 0 l).toArray, defers := ds } w) :
    (Code.loop c).wp P Q { tmps := l.toArray, defers := ds } w := by
  have hex : ∀ (a : Act) (w : World), (∃ u ds, a = { tmps := (fillFrom ws u 0 l).toArray, defers := ds } ∧ rel u ds w) →
      ∃ n, ∃ u ds, a = { tmps := (fillFrom ws u 0 l).toArray, defers := ds } ∧ rel u ds w ∧ mu u w = n := fun a w ⟨u, ds, h1, h2⟩ => ⟨_, u, ds, h1, h2, rfl⟩
  -- the measure is the least that any reading of the frame gives
  let I : Act → World → Prop := fun a w => ∃ u ds, a = { tmps := (fillFrom ws u 0 l).toArray, defers := ds } ∧ rel u ds w
  let ok : Act → World → Nat → Prop := fun a w n => ∃ u ds, a = { tmps := (fillFrom ws u 0 l).toArray, defers := ds } ∧ rel u ds w ∧ mu u w = n
  have least : ∀ a w, I a w → ∃ n, ok a w n ∧ ∀ m, m < n → ¬ ok a w m := by
    intro a w hi
    obtain ⟨n, hn⟩ := hex a w hi
    induction n using Nat.strongRecOn with
    | _ n ih =>
      by_cases h : ∃ m, m < n ∧ ok a w m
      · obtain ⟨m, hm, hok⟩ := h
        exact ih m hm hok
      · exact ⟨n, hn, fun m hm hok => h ⟨m, hm, hok⟩⟩
  let μ : Act → World → Nat := fun a w => @dite _ (I a w) (Classical.propDecidable _) (fun h => Classical.choose (least a w h)) (fun _ => 0)
  have hμ : ∀ a w (h : I a w), ok a w (μ a w) ∧ ∀ m, m < μ a w → ¬ ok a w m := by
    intro a w h
    have : μ a w = Classical.choose (least a w h) := dif_pos h
    rw [this]
    exact Classical.choose_spec (least a w h)
  refine wp_loop I μ ⟨_, ds, by rw [fillFrom_same ws l 0 _ (fun j => by simp)], h0⟩ ?_
  intro a w hi
  obtain ⟨⟨u, ds, ha, hr, hm⟩, _⟩ := hμ a w hi
  rw [ha]
  refine Code.wp_mono ?_ (round u ds w hr (fun a' w' => ∃ u' ds', a' = { tmps := (fillFrom ws u' 0 l).toArray, defers := ds' } ∧ rel u' ds' w' ∧ mu u' w' < mu u w)
    (fun tmps ds' w' h1 h2 h3 => ⟨_, ds', congrArg (fun t => ({ tmps := t, defers := ds' } : Act)) h1, h2, h3⟩))
  intro e a' w' hq
  cases e with
  | normal =>
    obtain ⟨u', ds', ha', hr', hlt⟩ := hq
    have hi' : I a' w' := ⟨u', ds', ha', hr'⟩
    refine ⟨hi', ?_⟩
    rw [← ha, ← hm]
    rcases Nat.lt_or_ge (μ a' w') (mu u w) with h | h
    · exact h
    · exact absurd ⟨u', ds', ha', hr', rfl⟩ ((hμ a' w' hi').2 (mu u' w') (by omega))
  | _ => exact hq
end Go.Proofs.Ytpmammklklkheaa
