/- The contracts of the loops over a slice of integers: equal lists, marks, a function's answer on each, and the reference's counts. No condition but the bounds that each names. -/
import Derived.Test.YtpmammklklkheaaA1
namespace Go.Proofs.Ytpmammklklkheaa
open Go.RowKit
open BigFrame

theorem set_next (xs : List Int) (k : Nat) (h : k < xs.length) : (xs.take k ++ List.replicate (xs.length - k) 0).set k (xs.getD k 0) = xs.take (k + 1) ++ List.replicate (xs.length - (k + 1)) 0 := by
  rw [List.set_append_right _ _ (by simp; omega)]
  rw [show xs.length - k = (xs.length - (k + 1)) + 1 from by omega, List.replicate_succ, List.length_take, show k - min k xs.length = 0 from by omega, List.set_cons_zero]
  rw [List.take_succ_eq_append_getElem h]
  simp [h, List.append_assoc, -List.take_append_getElem]

theorem eq_lists {xs ys : List Int} (hl : xs.length = ys.length) (h : ∀ j, j < xs.length → xs.getD j 0 = ys.getD j 0) : (xs == ys) = true := by
  rw [beq_iff_eq]
  apply List.ext_getElem hl
  intro i h1 h2
  have := h i h1
  simpa [h1, h2] using this
theorem ne_lists {xs ys : List Int} {k : Nat} (h : xs.getD k 0 ≠ ys.getD k 0) : (xs == ys) = false := by
  rw [beq_eq_false_iff_ne]
  rintro rfl
  exact h rfl
theorem ret_bool {a b : Bool} (h : a = b) : Ending.returned (.bool a) = .returned (.bool b) := by rw [h]
theorem ret_int {k : IntKind} {a b : Int} (h : a = b) : Ending.returned (.int k a) = .returned (.int k b) := by rw [h]

/-- The numbers from k on. -/
def upFrom (k n : Nat) : List Int := (List.range n).map fun i => ((k + i : Nat) : Int)
theorem upFrom_length (k n : Nat) : (upFrom k n).length = n := by simp [upFrom]
theorem upFrom_get (k n i : Nat) (h : i < n) : (upFrom k n).getD i 0 = ((k + i : Nat) : Int) := by simp [upFrom, h]
theorem mark_next (xs : List Int) (k j : Nat) (h : j < xs.length) : (upFrom k j ++ xs.drop j).set j ((k + j : Nat) : Int) = upFrom k (j + 1) ++ xs.drop (j + 1) := by
  rw [List.set_append_right _ _ (by simp [upFrom_length])]
  rw [upFrom_length, Nat.sub_self, List.drop_eq_getElem_cons h, List.set_cons_zero]
  unfold upFrom
  rw [List.range_succ]
  simp

/-- The place of the first number for which p holds, or -1. -/
def firstAt (p : Int → Bool) : Nat → List Int → Int
  | _, [] => -1
  | k, x :: r => if p x then (k : Int) else firstAt p (k + 1) r
theorem firstAt_any (p : Int → Bool) (l : List Int) (k : Nat) : decide (0 ≤ firstAt p k l) = l.any p := by
  induction l generalizing k with
  | nil => simp [firstAt]
  | cons x r ih =>
    unfold firstAt
    rw [List.any_cons]
    cases hp : p x
    · simp [ih]
    · simp
theorem firstAt_of (p : Int → Bool) (l : List Int) (k : Nat) (hk : k < l.length) (h : ∀ j, j < k → p (l.getD j 0) = false) (hp : p (l.getD k 0) = true) : ∀ m, firstAt p m l = (m + k : Nat) := by
  induction l generalizing k with
  | nil => simp at hk
  | cons x r ih =>
    intro m
    unfold firstAt
    cases k with
    | zero => simp at hp; simp [hp]
    | succ k =>
      have h0 := h 0 (by omega)
      simp at h0
      rw [h0]
      simp only [Bool.false_eq_true, if_false]
      rw [ih k (by simpa using hk) (fun j hj => by simpa using h (j + 1) (by omega)) (by simpa using hp) (m + 1)]
      congr 1; omega
theorem firstAt_none (p : Int → Bool) (l : List Int) (h : ∀ j, j < l.length → p (l.getD j 0) = false) : ∀ m, firstAt p m l = -1 := by
  induction l with
  | nil => intro m; rfl
  | cons x r ih =>
    intro m
    unfold firstAt
    have h0 := h 0 (by simp)
    simp at h0
    rw [h0]
    simp only [Bool.false_eq_true, if_false]
    exact ih (fun j hj => by simpa using h (j + 1) (by simpa using hj)) (m + 1)

set_option maxHeartbeats 400000 in
theorem indexFunc_c (v : Value) (xs : List Int) (K : Nat) (cap : Array Value) (p : Int → Bool) (w : World) (hv : Rd w v xs) (hm : xs.length ≤ 1048576)
    (eg : ∀ args w, (callFunc K args).run Try.prog w = .ok (.enter K args) w)
    (hf : ∀ x, x ∈ xs → ∀ w', Ext w w' → Calls Try.prog K (#[.int .i64 x] ++ cap) w' fun e w'' => e = .returned (.bool (p x)) ∧ Ext w' w'') :
    Calls Try.prog 126 #[v, .func (.func K) #[] cap] w fun e w' => e = .returned (.int .i64 (firstAt p 0 xs)) ∧ Ext w w' := by
  obtain ⟨a, c, rfl⟩ := hv.form
  have HV := Lib.hid hv; clear hv
  have HF := Lib.hid hf; clear hf
  go_enter Try.func126, Try.ntmps126
  go_wp2
  go_loopw [8] (fun i wr => ∃ k : Nat, k ≤ xs.length ∧ i = .int .i64 k ∧ (∀ j, j < k → p (xs.getD j 0) = false) ∧ Ext w wr) (fun i _ => xs.length - (intOf i).toNat)
  case atStart => exact ⟨0, Nat.zero_le _, rfl, by simp, Ext.refl _⟩
  case round =>
    obtain ⟨k, hk, rfl, hj, hx⟩ := hrel
    have HJ := Lib.hid hj; clear hj
    have HX := Lib.hid hx; clear hx
    by_cases hlt : k < xs.length
    · obtain ⟨b, o, rfl, -, -, hc⟩ := HV.out.at hlt
      replace hc := hc _ HX.out
      have HF1 := HF.out xs[k] (List.getElem_mem hlt) wr HX.out
      cases hp : p xs[k] <;> rw [hp] at HF1
      · go_wp2_with fail
        refine HF1.mono ?_
        rintro e w' ⟨rfl, hx'⟩
        go_wp2
        go_roundw
        case rel => exact ⟨k + 1, by omega, by go_num, fun j hj => by
          by_cases h : j = k
          · subst h; simpa [hlt] using hp
          · exact HJ.out j (by omega), HX.out.trans hx'⟩
        case measure => simp [intOf]; omega
      · go_wp2_with fail
        refine HF1.mono ?_
        rintro e w' ⟨rfl, hx'⟩
        go_wp2
        go_ret
        exact ⟨ret_int (by rw [firstAt_of p xs k hlt HJ.out (by simpa [hlt] using hp) 0]; simp), HX.out.trans hx'⟩
    · go_wp2
      go_ret
      obtain rfl : k = xs.length := by omega
      exact ⟨ret_int (firstAt_none p xs HJ.out 0).symm, HX.out⟩

theorem containsFunc_c (v : Value) (xs : List Int) (K : Nat) (cap : Array Value) (p : Int → Bool) (w : World) (hv : Rd w v xs) (hm : xs.length ≤ 1048576)
    (eg : ∀ args w, (callFunc K args).run Try.prog w = .ok (.enter K args) w)
    (hf : ∀ x, x ∈ xs → ∀ w', Ext w w' → Calls Try.prog K (#[.int .i64 x] ++ cap) w' fun e w'' => e = .returned (.bool (p x)) ∧ Ext w' w'') :
    Calls Try.prog 112 #[v, .func (.func K) #[] cap] w fun e w' => e = .returned (.bool (xs.any p)) ∧ Ext w w' := by
  have C := indexFunc_c v xs K cap p w hv hm eg hf
  have HA := Lib.hid (firstAt_any p xs 0)
  generalize firstAt p 0 xs = q at *
  have HC := Lib.hid C; clear C hf hv eg
  go_enter Try.func112, Try.ntmps112
  go_wp2_with (go_at_call 126; refine HC.out.mono ?_; rintro e w' ⟨rfl, hx⟩)
  go_ret
  exact ⟨ret_bool HA.out, by assumption⟩

theorem isKind_c (k : Int) (w : World) :
    Calls Try.prog 75 #[.int .i64 k] w fun e w' => e = .returned (.bool (inB 0 k 3)) ∧ w = w' := by
  go_enter Try.func75, Try.ntmps75
  go_wp2_with (go_at_call 100; refine (in_c _ _ _ _).mono ?_; rintro e w' ⟨rfl, rfl⟩)
  go_ret
  exact ⟨rfl, rfl⟩
theorem l2Kind_c (k : Int) (w : World) :
    Calls Try.prog 103 #[.int .i64 k] w fun e w' => e = .returned (.bool (inB 0 k 3)) ∧ w = w' := by
  go_enter Try.func103, Try.ntmps103
  go_wp2_with (go_at_call 65; refine (l6In_c _ _ _ _).mono ?_; rintro e w' ⟨rfl, rfl⟩)
  go_ret
  exact ⟨rfl, rfl⟩
theorem isFew_c (k : Int) (w : World) :
    Calls Try.prog 83 #[.int .i64 k] w fun e w' => e = .returned (.bool (inB 0 k 3)) ∧ w = w' := by
  go_enter Try.func83, Try.ntmps83
  go_wp2_with (go_at_call 100; refine (in_c _ _ _ _).mono ?_; rintro e w' ⟨rfl, rfl⟩)
  go_ret
  exact ⟨rfl, rfl⟩
theorem isBorne_c (k : Int) (w : World) :
    Calls Try.prog 60 #[.int .i64 k] w fun e w' => e = .returned (.bool (inB 0 k 4)) ∧ w = w' := by
  go_enter Try.func60, Try.ntmps60
  go_wp2_with (go_at_call 100; refine (in_c _ _ _ _).mono ?_; rintro e w' ⟨rfl, rfl⟩)
  go_ret
  exact ⟨rfl, rfl⟩
theorem l2Set_c (v : Value) (g : List Int) (code : Int) (w : World) (hv : Rd w v g) (hg : g.length ≤ 62) :
    Calls Try.prog 64 #[v, .int .i64 code] w fun e w' => e = .returned (.bool (setB code g.length)) ∧ w = w' := by
  obtain ⟨a, c, rfl⟩ := hv.form
  clear hv
  obtain ⟨p, hp, hp1, hp2, hp3⟩ := pow_var g.length hg
  have HP := Lib.hid hp; clear hp
  have e0 : min g.length 64 = g.length := by omega
  go_enter Try.func64, Try.ntmps64
  go_wp2_with (go_at_call 65; refine (l6In_c _ _ _ _).mono ?_; rintro e w' ⟨rfl, rfl⟩)
  go_ret
  exact ⟨by unfold setB; rw [HP.out]; rfl, rfl⟩

/-- How many of the first k nodes are in a set. -/
def cntTo (s k : Nat) : Nat := (List.range k).countP fun i => s.testBit i
theorem cntTo_succ (s k : Nat) : cntTo s (k + 1) = cntTo s k + (s.testBit k).toNat := by
  unfold cntTo
  rw [List.range_succ, List.countP_append]
  cases h : s.testBit k <;> simp [h]
theorem cntTo_le (s k : Nat) : cntTo s k ≤ k := by
  unfold cntTo
  exact Nat.le_trans List.countP_le_length (by simp)
set_option maxHeartbeats 400000 in
theorem l1Count_c (s : Nat) (hs : s < 2 ^ 62) (w : World) :
    Calls Try.prog 70 #[.int .i64 s] w fun e w' => e = .returned (.int .i64 (cnt s : Nat)) ∧ w = w' := by
  go_enter Try.func70, Try.ntmps70
  go_wp2
  go_loop [3, 4] (fun n i => ∃ k : Nat, k ≤ 12 ∧ i = .int .i64 k ∧ n = .int .i64 (cntTo s k : Nat)) (fun _ i => 12 - (intOf i).toNat)
  case atStart => exact ⟨0, Nat.zero_le _, rfl, rfl⟩
  case round =>
    obtain ⟨k, hk, rfl, rfl⟩ := hrel
    have h1 := cntTo_le s k
    have h2 : (s.testBit k).toNat ≤ 1 := by cases s.testBit k <;> decide
    have H3 := Lib.hid (cntTo_succ s k)
    generalize hq : cntTo s k = q at *
    have H4 := Lib.hid hq; clear hq
    by_cases hlt : k < 12
    · go_wp2_with (go_at_call 48; refine (l1Bit_c s k hs (by omega) _).mono ?_; rintro e w' ⟨rfl, rfl⟩)
      go_round
      case rel => exact ⟨k + 1, by omega, by go_num, by rw [H3.out]; go_num⟩
      case measure => simp [intOf]; omega
    · go_wp2
      go_ret
      obtain rfl : k = 12 := by omega
      exact ⟨by rw [← H4.out]; rfl, rfl⟩
theorem sizeC (m : Nat) (hm : m ≤ 4095) (w : World) : Calls Try.prog 57 #[.int .i64 m] w fun e w' => e = .returned (.int .i64 (cnt m : Nat)) ∧ w = w' := by
  have h := size_c m (by omega) w
  rwa [pop64_small m (by omega)] at h

end Go.Proofs.Ytpmammklklkheaa
