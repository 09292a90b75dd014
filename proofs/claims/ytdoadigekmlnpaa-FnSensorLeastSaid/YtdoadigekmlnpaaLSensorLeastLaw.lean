/- The walk of the law FnSensorLeast: the least code for no wrong sensors is the least identifying one. No condition. -/
import Derived.Test.YtdoadigekmlnpaaDGraph
import Derived.Test.YtdoadigekmlnpaaGBalls
import Derived.Test.YtdoadigekmlnpaaSensorLeast
import Derived.Test.YtdoadigekmlnpaaSensorIn
import Derived.Test.YtdoadigekmlnpaaCodeIn
namespace Go.Proofs.Ytdoadigekmlnpaa
open Go.RowKit
open BigFrame

set_option maxHeartbeats 1000000 in
theorem drawSensorLeast_c (v : Value) (bs : List Int) (w : World) (hv : Rb w v bs) (hm : bs.length ≤ 1048576) :
    Calls Try.prog 26 #[v] w fun e w' => ∃ (v' : Value) (gs : List Int) (x : Nat), e = .returned (.tuple #[v', .int .i64 x]) ∧ 1 ≤ gs.length ∧ gs.length ≤ 7 ∧ x ≤ 5 ∧ Rd w' v' gs ∧ Ext w w' := by
  have HO := Lib.hid (l6Open_c v bs w hv hm)
  obtain ⟨a, c, rfl, -, -⟩ := hv
  clear hm
  go_enter Try.func26, Try.ntmps26
  go_wp2_with fail
  refine HO.out.mono ?_
  rintro e w1 ⟨rfl, r1, -⟩
  have R1 := Lib.hid r1; clear r1
  go_wp2_with fail
  refine (l91Graph_c w _ 0 7 _ R1.out (by omega) (by omega) (by omega)).mono ?_
  rintro e w2 ⟨v2, gs, rfl, hn1, hn7, o2, r2⟩
  obtain ⟨ga, gc, rfl⟩ := o2.slice hn1
  have R2 := Lib.hid r2; have O2 := Lib.hid o2; clear r2 o2 R1
  obtain ⟨L, hL⟩ : ∃ L, L = gs.length := ⟨_, rfl⟩
  rw [← hL] at hn1 hn7 O2 ⊢
  have HL := Lib.hid hL
  clear hL
  go_wp2_with fail
  refine (pick_c w _ (0 + 200) 2 _ R2.out (by omega) (by omega) (by omega)).mono ?_
  rintro e w3 ⟨x, rfl, hx, r3, u3⟩
  have R3 := Lib.hid r3; have O3 := Lib.hid (O2.out.upd (by omega) u3); clear r3 u3
  go_wp2_with fail
  refine (pick_c w _ (0 + 200 + 1) 20 _ R3.out (by omega) (by omega) (by omega)).mono ?_
  rintro e w4 ⟨y, rfl, hy, r4, u4⟩
  have R4 := Lib.hid r4; have O4 := Lib.hid (O3.out.upd (by omega) u4); clear r4 u4
  obtain ⟨q, hq, e3⟩ : ∃ i : Nat, i ≤ 1 ∧ ((y : Int) / 19) = (i : Int) := ⟨y / 19, by omega, by simp⟩
  obtain ⟨q4, hq4, e4⟩ : ∃ i : Nat, i ≤ 4 ∧ (q : Int) * 4 = (i : Int) := ⟨q * 4, by omega, by simp⟩
  obtain ⟨z, hz1, e5⟩ : ∃ z : Nat, z ≤ 5 ∧ (x : Int) + (q4 : Int) = (z : Int) := ⟨x + q4, by omega, by simp⟩
  go_wp2
  go_ret2
  exact ⟨_, gs, z, rfl, by rw [← HL.out]; omega, by rw [← HL.out]; omega, hz1, O4.out.rd, R4.out.ext⟩
theorem lo_none_all {p : Nat → Bool} : ∀ k, lo p k = none → ∀ j, j < k → p j = false
  | 0, _, j, hj => absurd hj (Nat.not_lt_zero j)
  | k + 1, h, j, hj => by
    cases h1 : lo p k with
    | some b => rw [lo_some h1] at h; split at h <;> cases h
    | none =>
      rw [lo_none h1] at h
      by_cases e : j = k
      · subst e
        cases hp : p j
        · rfl
        · rw [hp] at h; cases h
      · exact lo_none_all k h1 j (by omega)
theorem lo_is {p : Nat → Bool} : ∀ k b, lo p k = some b → p b = true
  | 0, b, h => by cases h
  | k + 1, b, h => by
    cases h1 : lo p k with
    | some c =>
      rw [lo_some h1] at h
      split at h
      · rename_i hc
        cases h
        rw [Bool.and_eq_true] at hc
        exact hc.2
      · cases h
        exact lo_is k _ h1
    | none =>
      rw [lo_none h1] at h
      split at h
      · rename_i hc
        cases h
        exact hc
      · cases h
theorem bears_zero {g : List Int} (hg : IsGraph g) {s : Nat} (hs : s ≤ 4095) {t : Nat} (h : bearsN g s t = true) : kindN g 2 s = true := by
  unfold bearsN bearRow bearP at h
  simp only [List.all_eq_true, List.mem_range, Bool.and_eq_true, decide_eq_true_eq] at h
  refine kind2_iff.2 ⟨fun i hi h0 => ?_, fun i hi k hk h0 => ?_⟩
  · have := (h i hi).1
    rw [h0, (cnt_zero (by omega)).2 rfl] at this
    omega
  · have := (h i hi).2 k hk
    rw [bxor_zero.2 h0, (cnt_zero (by omega)).2 rfl] at this
    omega
theorem bears_kind {g : List Int} (hg : IsGraph g) {s : Nat} (hs : s ≤ 4095) : bearsN g s 0 = kindN g 2 s := by
  cases hk : kindN g 2 s
  · cases hb : bearsN g s 0
    · rfl
    · rw [bears_zero hg hs hb] at hk; cases hk
  · obtain ⟨h1, h2⟩ := kind2_iff.1 hk
    have hm : ∀ i, markN g s i ≤ 4095 := fun i => by
      have := mark_sub g s i
      have h3 : markN g s i ≤ s := by rw [← this]; exact Nat.and_le_right
      omega
    unfold bearsN bearRow bearP
    simp only [List.all_eq_true, List.mem_range, Bool.and_eq_true, decide_eq_true_eq]
    refine fun i hi => ⟨?_, fun k hk => ?_⟩
    · have := mt (cnt_zero (hm i)).1 (h1 i hi)
      omega
    · have := mt (cnt_zero (bxor_small (hm i) (hm k))).1 (mt bxor_zero.1 (h2 i hi k hk))
      omega
theorem lo_congr {p q : Nat → Bool} : ∀ k, (∀ j, j < k → p j = q j) → lo p k = lo q k
  | 0, _ => rfl
  | k + 1, h => by
    have ih := lo_congr k (fun j hj => h j (by omega))
    cases h1 : lo q k with
    | none => rw [lo_none (ih.trans h1), lo_none h1, h k (by omega)]
    | some b => rw [lo_some (ih.trans h1), lo_some h1, h k (by omega)]
theorem sensor_all {g : List Int} {t : Nat} : sensorLeast g t = (0, false) ∨ ∃ z c : Nat, z ≤ 4095 ∧ c ≤ 4095 ∧ sensorLeast g t = (((z : Nat) : Int), true) ∧ sensorIn g z t = true ∧ codeLeast g 2 = (((c : Nat) : Int), true) ∧ (t = 0 → c = z) := by
  cases hc : graphIn g && inB 0 (t : Int) 4
  · exact .inl (by unfold sensorLeast; rw [hc]; rfl)
  · have hc' := hc
    rw [Bool.and_eq_true] at hc'
    have hG := graphIn_iff.1 hc'.1
    have hp := pow_le_12 hG.le
    have e : sensorLeast g t = loP (lo (fun s => bearsN g s t) (2 ^ g.length)) := by unfold sensorLeast; rw [hc]; rfl
    have e2 : codeLeast g 2 = loP (lo (kindN g 2) (2 ^ g.length)) := by unfold codeLeast; rw [hc'.1]; rfl
    cases hz : lo (fun s => bearsN g s t) (2 ^ g.length) with
    | none => exact .inl (by rw [e, hz]; rfl)
    | some z =>
      have hzl := lo_lt _ _ hz
      have hzb : bearsN g z t = true := lo_is (p := fun s => bearsN g s t) _ _ hz
      cases hk : lo (kindN g 2) (2 ^ g.length) with
      | none =>
        have := lo_none_all _ hk z hzl
        rw [bears_zero hG (by omega) hzb] at this
        cases this
      | some c =>
        have hcl := lo_lt _ _ hk
        refine .inr ⟨z, c, by omega, by omega, by rw [e, hz]; rfl, ?_, by rw [e2, hk]; rfl, fun h0 => ?_⟩
        · unfold sensorIn
          rw [fits_iff.2 ⟨z, rfl, hG, hzl⟩, hc'.2]
          exact hzb
        · subst h0
          have := lo_congr (p := fun s => bearsN g s 0) (q := kindN g 2) (2 ^ g.length) (fun j hj => bears_kind hG (by omega))
          rw [hz, hk] at this
          cases this
          rfl

set_option maxRecDepth 100000 in
set_option maxHeartbeats 2000000 in
theorem FnSensorLeast_walk (v : Value) (bs : List Int) (w : World) (hv : Rb w v bs) :
    Calls Try.prog 5 #[v] w fun e w' => e = .returned (.bool true) ∧ Below w.heap.size w w' := by
  have HV := Lib.hid hv
  obtain ⟨a, c, rfl, -, -⟩ := hv
  go_enter Try.func5, Try.ntmps5
  by_cases hl : bs.length ≤ 1048576
  · go_wp2_with fail
    refine (drawSensorLeast_c _ bs w HV.out hl).mono ?_
    rintro e w1 ⟨v1, gs, t, rfl, hn1, hn7, ht5, r1, x1⟩
    obtain ⟨a1, c1, rfl⟩ := r1.form
    have hm : gs.length ≤ 1048576 := by omega
    have R1 := Lib.hid r1; have X1 := Lib.hid x1
    clear r1 x1
    rcases sensor_all (g := gs) (t := t) with h0 | ⟨z, k, hz, hk, hS, hI, hC, hT⟩
    · have H0 := Lib.hid h0
      clear h0
      go_wp2_with fail
      refine (sensorLeastI_c _ gs t w1 R1.out hm).mono ?_
      rintro e w2 ⟨rfl, x2⟩
      rw [H0.out]
      unfold pairV
      have R2 := Lib.hid (R1.out.ext x2); have X2 := Lib.hid (X1.out.trans x2); clear x2
      go_wp2_with fail
      refine (sensorLeastS_c _ gs t w2 R2.out hm).mono ?_
      rintro e w3 ⟨rfl, x3⟩
      rw [H0.out]
      unfold pairV
      have R3 := Lib.hid (R2.out.ext x3); have X3 := Lib.hid (X2.out.trans x3); clear x3
      go_wp2
      go_ret
      exact ⟨rfl, X3.out⟩
    · have HS := Lib.hid hS; have HI := Lib.hid hI; have HC := Lib.hid hC; have HT := Lib.hid hT
      clear hS hI hC hT
      go_wp2_with fail
      refine (sensorLeastI_c _ gs t w1 R1.out hm).mono ?_
      rintro e w2 ⟨rfl, x2⟩
      rw [HS.out]
      unfold pairV
      have R2 := Lib.hid (R1.out.ext x2); have X2 := Lib.hid (X1.out.trans x2); clear x2
      go_wp2_with fail
      refine (sensorLeastS_c _ gs t w2 R2.out hm).mono ?_
      rintro e w3 ⟨rfl, x3⟩
      rw [HS.out]
      unfold pairV
      have R3 := Lib.hid (R2.out.ext x3); have X3 := Lib.hid (X2.out.trans x3); clear x3
      go_wp2_with fail
      refine (codeLeastI_c _ gs 2 w3 R3.out hm).mono ?_
      rintro e w4 ⟨rfl, x4⟩
      rw [HC.out]
      unfold pairV
      have R4 := Lib.hid (R3.out.ext x4); have X4 := Lib.hid (X3.out.trans x4); clear x4
      go_wp2_with fail
      refine (sensorInI_c _ gs z t w4 R4.out hm).mono ?_
      rintro e w5 ⟨rfl, x5⟩
      rw [HI.out]
      have R5 := Lib.hid (R4.out.ext x5); have X5 := Lib.hid (X4.out.trans x5); clear x5
      by_cases h0 : t = 0
      · obtain rfl : k = z := HT.out h0
        subst h0
        go_wp2
        go_ret
        exact ⟨rfl, X5.out⟩
      · have f1 : 0 < t := by omega
        go_wp2
        go_ret
        exact ⟨rfl, X5.out⟩
  · go_wp2
    go_ret
    exact ⟨rfl, Below.refl _ _⟩
end Go.Proofs.Ytdoadigekmlnpaa
