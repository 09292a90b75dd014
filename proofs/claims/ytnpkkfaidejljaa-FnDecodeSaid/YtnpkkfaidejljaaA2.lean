/- The contracts of the loops over a slice of integers: equal lists, marks, a function's answer on each, and the reference's counts. No condition but the bounds that each names. -/
import Derived.Test.YtnpkkfaidejljaaA1
namespace Go.Proofs.Ytnpkkfaidejljaa
open Go.RowKit
open BigFrame

theorem set_next (xs : List Int) (k : Nat) (h : k < xs.length) : (xs.take k ++ List.replicate (xs.length - k) 0).set k (xs.getD k 0) = xs.take (k + 1) ++ List.replicate (xs.length - (k + 1)) 0 := by
  rw [List.set_append_right _ _ (by simp; omega)]
  rw [show xs.length - k = (xs.length - (k + 1)) + 1 from by omega, List.replicate_succ, List.length_take, show k - min k xs.length = 0 from by omega, List.set_cons_zero]
  rw [List.take_succ_eq_append_getElem h]
  simp [h, List.append_assoc, -List.take_append_getElem]

set_option maxHeartbeats 400000 in
theorem toIntS_c (v : Value) (xs : List Int) (w : World) (hv : Rd w v xs) (hm : xs.length ≤ 1048576) :
    Calls Try.prog 24 #[v] w fun e w' => ∃ v', e = .returned v' ∧ Own w' w.heap.size v' xs ∧ v' ≠ .slice none 0 0 ∧ Ext w w' := by
  obtain ⟨i0, hi, hz0, hz1, hz2⟩ := info_parts info_int
  obtain ⟨a, c, rfl⟩ := hv.form
  have HV := Lib.hid hv; clear hv
  go_enter Try.func24, Try.ntmps24
  go_wp2_with (at_make; refine wpList_make_full _ rfl _ _ 22 rfl w.heap.size 3 i0 (.int .i64 0) 1 Try.underlying22 hi hz0 hz1 _ _ _ _ xs.length rfl rfl rfl rfl (by rw [hz2]; omega) (by unfold maxLen; omega) (Nat.le_refl _) ?_; intro w1 hown hg)
  have HX : Hid (Ext w w1) := (Ext.refl w).grown hg (fun _ h => by cases h)
  have HO : Hid (Own w1 w.heap.size (.slice (some ⟨w.heap.size, 0, none⟩) xs.length xs.length) (xs.take 0 ++ List.replicate (xs.length - 0) 0)) := by
    have := hown
    simp only [Value.cells, Nat.mul_one, toList_madeCells_one] at this
    unfold Own Hid; simpa using this
  clear hown hg hi hz0 hz1 hz2
  go_loopw [4] (fun i wr => ∃ k : Nat, k ≤ xs.length ∧ i = .int .i64 k ∧ Own wr w.heap.size (.slice (some ⟨w.heap.size, 0, none⟩) xs.length xs.length) (xs.take k ++ List.replicate (xs.length - k) 0) ∧ Ext w wr) (fun i _ => xs.length - (intOf i).toNat)
  case atStart => exact ⟨0, Nat.zero_le _, rfl, HO.out, HX.out⟩
  case round =>
    clear HO HX
    obtain ⟨k, hk, rfl, ho, hx⟩ := hrel
    have HO := Lib.hid ho; clear ho
    have HX := Lib.hid hx; clear hx
    by_cases hlt : k < xs.length
    · obtain ⟨b, o, rfl, -, -, hc⟩ := HV.out.at hlt
      replace hc := hc _ HX.out
      obtain ⟨-, -, -, -, hcl, hf⟩ := HO.out.at
      replace hcl := hcl k hlt
      replace hf := hf k
      go_wp2
      go_roundw
      case rel => exact ⟨k + 1, by omega, by go_num, by have := HO.out.set k (xs.getD k 0); rw [set_next xs k hlt] at this; simpa [hlt] using this, HX.out.setCell (Nat.le_refl _) _⟩
      case measure => simp [intOf]; omega
    · go_wp2
      go_ret
      obtain rfl : k = xs.length := by omega
      exact ⟨_, rfl, by have := HO.out; simpa using this, by simp, HX.out⟩

theorem eq_lists {xs ys : List Int} (hl : xs.length = ys.length) (h : ∀ j, j < xs.length → xs.getD j 0 = ys.getD j 0) : (xs == ys) = true := by
  rw [beq_iff_eq]
  apply List.ext_getElem hl
  intro i h1 h2
  have := h i h1
  simpa [h1, h2] using this
theorem ne_lists {xs ys : List Int} {k : Nat} (h : xs.getD k 0 ≠ ys.getD k 0) : (xs == ys) = false := by
  rw [beq_eq_false_iff_ne]
  rintro rfl
  exact h rfl
theorem ret_bool {a b : Bool} (h : a = b) : Ending.returned (.bool a) = .returned (.bool b) := by rw [h]
theorem ret_int {k : IntKind} {a b : Int} (h : a = b) : Ending.returned (.int k a) = .returned (.int k b) := by rw [h]

set_option maxHeartbeats 400000 in
theorem eqIntS_c (v v' : Value) (xs ys : List Int) (w : World) (hv : Rd w v xs) (hv' : Rd w v' ys) (hx : xs.length ≤ 1048576) (hy : ys.length ≤ 1048576) :
    Calls Try.prog 26 #[v, v'] w fun e w' => e = .returned (.bool (xs == ys)) ∧ Ext w w' := by
  obtain ⟨a, c, rfl⟩ := hv.form
  obtain ⟨a', c', rfl⟩ := hv'.form
  have HV := Lib.hid hv; clear hv
  have HV' := Lib.hid hv'; clear hv'
  by_cases hl : xs.length = ys.length
  · have hl1 : ((xs.length : Int) != (ys.length : Int)) = false := by simp [hl]
    have HL := Lib.hid hl; clear hl
    go_enter Try.func26, Try.ntmps26
    go_wp2
    go_loopw [5] (fun i wr => ∃ k : Nat, k ≤ xs.length ∧ i = .int .i64 k ∧ (∀ j, j < k → xs.getD j 0 = ys.getD j 0) ∧ Ext w wr) (fun i _ => xs.length - (intOf i).toNat)
    case atStart => exact ⟨0, Nat.zero_le _, rfl, by simp, Ext.refl _⟩
    case round =>
      obtain ⟨k, hk, rfl, hj, hx⟩ := hrel
      have HJ := Lib.hid hj; clear hj
      have HX := Lib.hid hx; clear hx
      by_cases hlt : k < xs.length
      · have hlt' : k < ys.length := by have := HL.out; omega
        obtain ⟨b, o, rfl, -, -, hc⟩ := HV.out.at hlt
        obtain ⟨b', o', rfl, -, -, hc'⟩ := HV'.out.at hlt'
        have c1 := fun u => hc _ (HX.out.trans (clip_ext wr u))
        have c2 := fun u => hc' _ (HX.out.trans (clip_ext wr u))
        clear hc hc'
        by_cases he : xs[k] = ys[k]
        · have he1 : (xs[k] != ys[k]) = false := by simp [he]
          have HE := Lib.hid he; clear he
          go_wp2
          refine wp_region_ext (by kernel_rfl) (by kernel_rfl) ?_
          repeat (go_big_quiet_step (fail))
          refine wpQuiet_nil ?_
          rintro _ ⟨u, rfl⟩
          go_wp2
          go_roundw
          case rel => exact ⟨k + 1, by omega, by go_num, fun j hj => by
            by_cases h : j = k
            · subst h; simpa [hlt, hlt'] using HE.out
            · exact HJ.out j (by omega), HX.out.trans (clip_ext _ _)⟩
          case measure => simp [intOf]; omega
        · have he1 : (xs[k] != ys[k]) = true := by simpa using he
          go_wp2
          refine wp_region_ext (by kernel_rfl) (by kernel_rfl) ?_
          repeat (go_big_quiet_step (fail))
          refine wpQuiet_nil ?_
          rintro _ ⟨u, rfl⟩
          go_wp2
          go_ret
          exact ⟨ret_bool (ne_lists (k := k) (by simpa [hlt, hlt'] using he)).symm, HX.out.trans (clip_ext _ _)⟩
      · go_wp2
        go_ret
        obtain rfl : k = xs.length := by omega
        exact ⟨ret_bool (eq_lists HL.out HJ.out).symm, HX.out⟩
  · have hl1 : ((xs.length : Int) != (ys.length : Int)) = true := by simp; omega
    go_enter Try.func26, Try.ntmps26
    go_wp2
    go_ret
    exact ⟨ret_bool (by symm; rw [beq_eq_false_iff_ne]; rintro rfl; exact hl rfl), Ext.refl _⟩

/-- The numbers from k on. -/
def upFrom (k n : Nat) : List Int := (List.range n).map fun i => ((k + i : Nat) : Int)
theorem upFrom_length (k n : Nat) : (upFrom k n).length = n := by simp [upFrom]
theorem upFrom_get (k n i : Nat) (h : i < n) : (upFrom k n).getD i 0 = ((k + i : Nat) : Int) := by simp [upFrom, h]
theorem mark_next (xs : List Int) (k j : Nat) (h : j < xs.length) : (upFrom k j ++ xs.drop j).set j ((k + j : Nat) : Int) = upFrom k (j + 1) ++ xs.drop (j + 1) := by
  rw [List.set_append_right _ _ (by simp [upFrom_length])]
  rw [upFrom_length, Nat.sub_self, List.drop_eq_getElem_cons h, List.set_cons_zero]
  unfold upFrom
  rw [List.range_succ]
  simp

set_option maxHeartbeats 400000 in
theorem markIntS_c (v : Value) (xs : List Int) (k : Nat) (base : Nat) (w : World) (ho : Own w base v xs) (hx : xs.length ≤ 1048576) (hk : k ≤ 1048576) :
    Calls Try.prog 31 #[v, .int .i64 k] w fun e w' => e = .returned (.int .i64 ((k + xs.length : Nat) : Int)) ∧ Own w' base v (upFrom k xs.length) ∧ w.grownBy w' v.ownBlock := by
  rcases ho.get with ⟨rfl, rfl⟩ | ⟨g, c, rfl, -, -, -, -, -⟩
  · go_enter Try.func31, Try.ntmps31
    go_wp2
    refine wp_loop_once ?_
    go_wp2
    go_ret
    exact ⟨rfl, ho, World.grownBy.refl _ _⟩
  · have HO := Lib.hid ho; clear ho
    go_enter Try.func31, Try.ntmps31
    go_wp2
    go_loopw [1, 5] (fun q i wr => ∃ j : Nat, j ≤ xs.length ∧ i = .int .i64 j ∧ q = .int .i64 ((k + j : Nat) : Int) ∧ Own wr base (.slice (some ⟨g, 0, none⟩) xs.length c) (upFrom k j ++ xs.drop j) ∧ w.grownBy wr (some g)) (fun _ i _ => xs.length - (intOf i).toNat)
    case atStart => exact ⟨0, Nat.zero_le _, rfl, rfl, by simpa [upFrom] using HO.out, World.grownBy.refl _ _⟩
    case round =>
      obtain ⟨j, hj, rfl, rfl, ho, hg⟩ := hrel
      have HO := Lib.hid ho; clear ho
      have HG := Lib.hid hg; clear hg
      by_cases hlt : j < xs.length
      · obtain ⟨-, -, -, -, hcl, hf⟩ := HO.out.at
        replace hcl := hcl j hlt
        replace hf := hf j
        go_wp2
        go_roundw
        case rel => exact ⟨j + 1, by omega, by go_num, by go_num, by have := HO.out.set j ((k + j : Nat) : Int); rw [mark_next xs k j hlt] at this; simpa using this, by
          refine ⟨HG.out.os, HG.out.tape, HG.out.output, by simpa [World.setCell] using HG.out.size, fun b hb hne => ?_⟩
          rw [Below.heap_setCell _ _ _ _ (by intro h; exact hne (by rw [h]))]
          exact HG.out.block b hb hne⟩
        case measure => simp [intOf]; omega
      · go_wp2
        go_ret
        obtain rfl : j = xs.length := by omega
        refine ⟨rfl, ?_, HG.out⟩
        have := HO.out
        rw [List.drop_length, List.append_nil] at this
        exact this

set_option maxHeartbeats 400000 in
theorem heldIntS_c (v : Value) (k n : Nat) (w : World) (hv : Rd w v (upFrom k n)) (hx : n ≤ 1048576) (hk : k ≤ 1048576) :
    Calls Try.prog 32 #[v, .int .i64 k] w fun e w' => e = .returned (.int .i64 ((k + n : Nat) : Int)) ∧ Ext w w' := by
  obtain ⟨a, c, rfl⟩ := hv.form
  rw [upFrom_length] at hv ⊢
  have HV := Lib.hid hv; clear hv
  go_enter Try.func32, Try.ntmps32
  go_wp2
  go_loopw [1, 5] (fun q i wr => ∃ j : Nat, j ≤ n ∧ i = .int .i64 j ∧ q = .int .i64 ((k + j : Nat) : Int) ∧ Ext w wr) (fun _ i _ => n - (intOf i).toNat)
  case atStart => exact ⟨0, Nat.zero_le _, rfl, rfl, Ext.refl _⟩
  case round =>
    obtain ⟨j, hj, rfl, rfl, hx⟩ := hrel
    have HX := Lib.hid hx; clear hx
    by_cases hlt : j < n
    · obtain ⟨b, o, rfl, -, -, hc⟩ := HV.out.at hlt
      replace hc := hc _ HX.out
      rw [upFrom_get k n j hlt] at hc
      go_wp2
      go_roundw
      case rel => exact ⟨j + 1, by omega, by go_num, by go_num, HX.out⟩
      case measure => simp [intOf]; omega
    · go_wp2
      go_ret
      obtain rfl : j = n := by omega
      exact ⟨rfl, HX.out⟩

/-- The place of the first number for which p holds, or -1. -/
def firstAt (p : Int → Bool) : Nat → List Int → Int
  | _, [] => -1
  | k, x :: r => if p x then (k : Int) else firstAt p (k + 1) r
theorem firstAt_any (p : Int → Bool) (l : List Int) (k : Nat) : decide (0 ≤ firstAt p k l) = l.any p := by
  induction l generalizing k with
  | nil => simp [firstAt]
  | cons x r ih =>
    unfold firstAt
    rw [List.any_cons]
    cases hp : p x
    · simp [ih]
    · simp
theorem firstAt_of (p : Int → Bool) (l : List Int) (k : Nat) (hk : k < l.length) (h : ∀ j, j < k → p (l.getD j 0) = false) (hp : p (l.getD k 0) = true) : ∀ m, firstAt p m l = (m + k : Nat) := by
  induction l generalizing k with
  | nil => simp at hk
  | cons x r ih =>
    intro m
    unfold firstAt
    cases k with
    | zero => simp at hp; simp [hp]
    | succ k =>
      have h0 := h 0 (by omega)
      simp at h0
      rw [h0]
      simp only [Bool.false_eq_true, if_false]
      rw [ih k (by simpa using hk) (fun j hj => by simpa using h (j + 1) (by omega)) (by simpa using hp) (m + 1)]
      congr 1; omega
theorem firstAt_none (p : Int → Bool) (l : List Int) (h : ∀ j, j < l.length → p (l.getD j 0) = false) : ∀ m, firstAt p m l = -1 := by
  induction l with
  | nil => intro m; rfl
  | cons x r ih =>
    intro m
    unfold firstAt
    have h0 := h 0 (by simp)
    simp at h0
    rw [h0]
    simp only [Bool.false_eq_true, if_false]
    exact ih (fun j hj => by simpa using h (j + 1) (by simpa using hj)) (m + 1)

set_option maxHeartbeats 400000 in
theorem indexFunc_c (v : Value) (xs : List Int) (K : Nat) (cap : Array Value) (p : Int → Bool) (w : World) (hv : Rd w v xs) (hm : xs.length ≤ 1048576)
    (eg : ∀ args w, (callFunc K args).run Try.prog w = .ok (.enter K args) w)
    (hf : ∀ x, x ∈ xs → ∀ w', Ext w w' → Calls Try.prog K (#[.int .i64 x] ++ cap) w' fun e w'' => e = .returned (.bool (p x)) ∧ Ext w' w'') :
    Calls Try.prog 145 #[v, .func (.func K) #[] cap] w fun e w' => e = .returned (.int .i64 (firstAt p 0 xs)) ∧ Ext w w' := by
  obtain ⟨a, c, rfl⟩ := hv.form
  have HV := Lib.hid hv; clear hv
  have HF := Lib.hid hf; clear hf
  go_enter Try.func145, Try.ntmps145
  go_wp2
  go_loopw [8] (fun i wr => ∃ k : Nat, k ≤ xs.length ∧ i = .int .i64 k ∧ (∀ j, j < k → p (xs.getD j 0) = false) ∧ Ext w wr) (fun i _ => xs.length - (intOf i).toNat)
  case atStart => exact ⟨0, Nat.zero_le _, rfl, by simp, Ext.refl _⟩
  case round =>
    obtain ⟨k, hk, rfl, hj, hx⟩ := hrel
    have HJ := Lib.hid hj; clear hj
    have HX := Lib.hid hx; clear hx
    by_cases hlt : k < xs.length
    · obtain ⟨b, o, rfl, -, -, hc⟩ := HV.out.at hlt
      replace hc := hc _ HX.out
      have HF1 := HF.out xs[k] (List.getElem_mem hlt) wr HX.out
      cases hp : p xs[k] <;> rw [hp] at HF1
      · go_wp2_with fail
        refine HF1.mono ?_
        rintro e w' ⟨rfl, hx'⟩
        go_wp2
        go_roundw
        case rel => exact ⟨k + 1, by omega, by go_num, fun j hj => by
          by_cases h : j = k
          · subst h; simpa [hlt] using hp
          · exact HJ.out j (by omega), HX.out.trans hx'⟩
        case measure => simp [intOf]; omega
      · go_wp2_with fail
        refine HF1.mono ?_
        rintro e w' ⟨rfl, hx'⟩
        go_wp2
        go_ret
        exact ⟨ret_int (by rw [firstAt_of p xs k hlt HJ.out (by simpa [hlt] using hp) 0]; simp), HX.out.trans hx'⟩
    · go_wp2
      go_ret
      obtain rfl : k = xs.length := by omega
      exact ⟨ret_int (firstAt_none p xs HJ.out 0).symm, HX.out⟩

theorem containsFunc_c (v : Value) (xs : List Int) (K : Nat) (cap : Array Value) (p : Int → Bool) (w : World) (hv : Rd w v xs) (hm : xs.length ≤ 1048576)
    (eg : ∀ args w, (callFunc K args).run Try.prog w = .ok (.enter K args) w)
    (hf : ∀ x, x ∈ xs → ∀ w', Ext w w' → Calls Try.prog K (#[.int .i64 x] ++ cap) w' fun e w'' => e = .returned (.bool (p x)) ∧ Ext w' w'') :
    Calls Try.prog 114 #[v, .func (.func K) #[] cap] w fun e w' => e = .returned (.bool (xs.any p)) ∧ Ext w w' := by
  have C := indexFunc_c v xs K cap p w hv hm eg hf
  have HA := Lib.hid (firstAt_any p xs 0)
  generalize firstAt p 0 xs = q at *
  have HC := Lib.hid C; clear C hf hv eg
  go_enter Try.func114, Try.ntmps114
  go_wp2_with (go_at_call 145; refine HC.out.mono ?_; rintro e w' ⟨rfl, hx⟩)
  go_ret
  exact ⟨ret_bool HA.out, by assumption⟩

theorem isKind_c (k : Int) (w : World) :
    Calls Try.prog 139 #[.int .i64 k] w fun e w' => e = .returned (.bool (inB 0 k 3)) ∧ w = w' := by
  go_enter Try.func139, Try.ntmps139
  go_wp2_with (go_at_call 111; refine (in_c _ _ _ _).mono ?_; rintro e w' ⟨rfl, rfl⟩)
  go_ret
  exact ⟨rfl, rfl⟩
theorem l2Kind_c (k : Int) (w : World) :
    Calls Try.prog 135 #[.int .i64 k] w fun e w' => e = .returned (.bool (inB 0 k 3)) ∧ w = w' := by
  go_enter Try.func135, Try.ntmps135
  go_wp2_with (go_at_call 93; refine (l6In_c _ _ _ _).mono ?_; rintro e w' ⟨rfl, rfl⟩)
  go_ret
  exact ⟨rfl, rfl⟩
theorem isFew_c (k : Int) (w : World) :
    Calls Try.prog 124 #[.int .i64 k] w fun e w' => e = .returned (.bool (inB 0 k 3)) ∧ w = w' := by
  go_enter Try.func124, Try.ntmps124
  go_wp2_with (go_at_call 111; refine (in_c _ _ _ _).mono ?_; rintro e w' ⟨rfl, rfl⟩)
  go_ret
  exact ⟨rfl, rfl⟩
theorem isBorne_c (k : Int) (w : World) :
    Calls Try.prog 96 #[.int .i64 k] w fun e w' => e = .returned (.bool (inB 0 k 4)) ∧ w = w' := by
  go_enter Try.func96, Try.ntmps96
  go_wp2_with (go_at_call 111; refine (in_c _ _ _ _).mono ?_; rintro e w' ⟨rfl, rfl⟩)
  go_ret
  exact ⟨rfl, rfl⟩
theorem l2Set_c (v : Value) (g : List Int) (code : Int) (w : World) (hv : Rd w v g) (hg : g.length ≤ 62) :
    Calls Try.prog 119 #[v, .int .i64 code] w fun e w' => e = .returned (.bool (setB code g.length)) ∧ w = w' := by
  obtain ⟨a, c, rfl⟩ := hv.form
  clear hv
  obtain ⟨p, hp, hp1, hp2, hp3⟩ := pow_var g.length hg
  have HP := Lib.hid hp; clear hp
  have e0 : min g.length 64 = g.length := by omega
  go_enter Try.func119, Try.ntmps119
  go_wp2_with (go_at_call 93; refine (l6In_c _ _ _ _).mono ?_; rintro e w' ⟨rfl, rfl⟩)
  go_ret
  exact ⟨by unfold setB; rw [HP.out]; rfl, rfl⟩

/-- How many of the first k nodes are in a set. -/
def cntTo (s k : Nat) : Nat := (List.range k).countP fun i => s.testBit i
theorem cntTo_succ (s k : Nat) : cntTo s (k + 1) = cntTo s k + (s.testBit k).toNat := by
  unfold cntTo
  rw [List.range_succ, List.countP_append]
  cases h : s.testBit k <;> simp [h]
theorem cntTo_le (s k : Nat) : cntTo s k ≤ k := by
  unfold cntTo
  exact Nat.le_trans List.countP_le_length (by simp)
set_option maxHeartbeats 400000 in
theorem l1Count_c (s : Nat) (hs : s < 2 ^ 62) (w : World) :
    Calls Try.prog 94 #[.int .i64 s] w fun e w' => e = .returned (.int .i64 (cnt s : Nat)) ∧ w = w' := by
  go_enter Try.func94, Try.ntmps94
  go_wp2
  go_loop [3, 4] (fun n i => ∃ k : Nat, k ≤ 12 ∧ i = .int .i64 k ∧ n = .int .i64 (cntTo s k : Nat)) (fun _ i => 12 - (intOf i).toNat)
  case atStart => exact ⟨0, Nat.zero_le _, rfl, rfl⟩
  case round =>
    obtain ⟨k, hk, rfl, rfl⟩ := hrel
    have h1 := cntTo_le s k
    have h2 : (s.testBit k).toNat ≤ 1 := by cases s.testBit k <;> decide
    have H3 := Lib.hid (cntTo_succ s k)
    generalize hq : cntTo s k = q at *
    have H4 := Lib.hid hq; clear hq
    by_cases hlt : k < 12
    · go_wp2_with (go_at_call 117; refine (l1Bit_c s k hs (by omega) _).mono ?_; rintro e w' ⟨rfl, rfl⟩)
      go_round
      case rel => exact ⟨k + 1, by omega, by go_num, by rw [H3.out]; go_num⟩
      case measure => simp [intOf]; omega
    · go_wp2
      go_ret
      obtain rfl : k = 12 := by omega
      exact ⟨by rw [← H4.out]; rfl, rfl⟩
theorem sizeC (m : Nat) (hm : m ≤ 4095) (w : World) : Calls Try.prog 81 #[.int .i64 m] w fun e w' => e = .returned (.int .i64 (cnt m : Nat)) ∧ w = w' := by
  have h := size_c m (by omega) w
  rwa [pop64_small m (by omega)] at h

end Go.Proofs.Ytnpkkfaidejljaa
