/- The walk of the law FnPool. No condition. -/
import Derived.Test.YtnpkkfaidejljaaDraws
import Derived.Test.YtnpkkfaidejljaaLeft
import Derived.Test.YtnpkkfaidejljaaPFacts
namespace Go.Proofs.Ytnpkkfaidejljaa
open Go.RowKit
open BigFrame

theorem rd_cap {w : World} {a : Option Addr} {n c : Nat} {xs : List Int} (h : Rd w (.slice a n c) xs) (h0 : xs.length ≠ 0) : xs.length ≤ c := by
  obtain ⟨a', c', e, h⟩ := h
  simp only [Value.slice.injEq] at e
  obtain ⟨rfl, rfl, rfl⟩ := e
  rcases h with h | ⟨b, o, _, _, h, _⟩
  · exact absurd h h0
  · exact h
theorem Rd.take {w : World} {a : Option Addr} {n c : Nat} {xs : List Int} (h : Rd w (.slice a n c) xs) (k : Nat) (hk : k ≤ xs.length) : Rd w (.slice a k c) (xs.take k) := by
  obtain ⟨a', c', e, h⟩ := h
  simp only [Value.slice.injEq] at e
  obtain ⟨rfl, rfl, rfl⟩ := e
  have hlen : (xs.take k).length = k := by simp; omega
  refine ⟨a, c, by rw [hlen], ?_⟩
  rcases h with h | ⟨b, o, rfl, hb, hc, h⟩
  · exact .inl (by omega)
  · refine .inr ⟨b, o, rfl, hb, by omega, fun i hi => ?_⟩
    rw [h i (by omega)]
    have : i < k := by omega
    simp [this]
theorem pool_none {n : Int} {xs : List Int} (h : poolIn n xs = true) : poolAnswers n xs 0 = (0, true) := by
  unfold poolAnswers
  have hs : setB 0 n.toNat = true := setB_iff.2 ⟨0, rfl, Nat.two_pow_pos _⟩
  rw [h, hs]
  show (((answersOf xs 0 : Nat) : Int), true) = _
  rw [answers_zero]; rfl
theorem pool_less {n : Int} {xs : List Int} (h : poolIn n xs = true) : poolIn n (xs.take (xs.length - 1)) = true := by
  unfold poolIn at h ⊢
  simp only [Bool.and_eq_true, decide_eq_true_eq, List.all_eq_true] at h ⊢
  exact ⟨⟨h.1.1, by simp; omega⟩, fun s hs => h.2 s (List.mem_of_mem_take hs)⟩

set_option maxRecDepth 100000 in
set_option maxHeartbeats 1000000 in
theorem FnPool_walk (v : Value) (bs : List Int) (w : World) (hv : Rb w v bs) :
    Calls Try.prog 12 #[v] w fun e w' => e = .returned (.bool true) ∧ Below w.heap.size w w' := by
  have HV := Lib.hid hv
  obtain ⟨a, c, rfl, -, -⟩ := hv
  go_enter Try.func12, Try.ntmps12
  by_cases hl : bs.length ≤ 1048576
  · go_wp2_with fail
    refine (drawPoolIn_c _ bs w HV.out hl).mono ?_
    rintro e w1 ⟨n, v1, xs, rfl, hn1, hn6, hxl, r1, x1⟩
    have hcap : xs.length = 0 ∨ xs.length ≤ 0 + xs.length := .inr (by omega)
    obtain ⟨a1, c1, rfl⟩ := r1.form
    have hm : xs.length ≤ 1048576 := by omega
    have R1 := Lib.hid r1; have X1 := Lib.hid x1
    clear r1 x1
    have HCAP := Lib.hid (rd_cap R1.out)
    clear hcap
    go_wp2_with fail
    refine (poolInI_c n _ xs w1 R1.out hm).mono ?_
    rintro e w2 ⟨rfl, x2⟩
    have R2 := Lib.hid (R1.out.ext x2); have X2 := Lib.hid (X1.out.trans x2); clear x2
    go_wp2_with fail
    refine (poolInS_c n _ xs w2 R2.out hm).mono ?_
    rintro e w3 ⟨rfl, x3⟩
    have R3 := Lib.hid (R2.out.ext x3); have X3 := Lib.hid (X2.out.trans x3); clear x3
    cases hp : poolIn n xs
    · go_wp2
      go_ret
      exact ⟨rfl, X3.out⟩
    · have HA : Hid (poolAnswers n xs 0 = (0, true)) := pool_none hp
      have HT := Lib.hid (pool_less hp)
      clear hp
      go_wp2_with fail
      refine (poolAnswersI_c n _ xs 0 w3 R3.out hm).mono ?_
      rintro e w4 ⟨rfl, x4⟩
      rw [HA.out]
      unfold pairV
      have R4 := Lib.hid (R3.out.ext x4); have X4 := Lib.hid (X3.out.trans x4); clear x4
      obtain ⟨L, hL⟩ : ∃ L, L = xs.length := ⟨_, rfl⟩
      have HL := Lib.hid hL
      by_cases hz : L = 0
      · have hz0 : ((L : Int) == 0) = true := by simp [hz]
        rw [← hL]
        clear hz hL
        go_wp2
        go_ret
        exact ⟨rfl, X4.out⟩
      · have hz0 : ((L : Int) == 0) = false := by simp [hz]
        have hcap := HCAP.out (by omega)
        have HTK := Lib.hid (R4.out.take (L - 1) (by omega))
        rw [← hL] at hcap ⊢
        have hL1 : (L : Int) - 1 = ((L - 1 : Nat) : Int) := by omega
        obtain ⟨M, hM⟩ : ∃ M, M = L - 1 := ⟨_, rfl⟩
        have hMc : M ≤ c1 := by omega
        have hMb : M ≤ 12 := by omega
        rw [← hM] at HTK hL1
        have HMM : Hid (M = xs.length - 1) := by unfold Hid; rw [hM, hL]
        clear hz hL hM
        go_wp2_with fail
        refine (poolInI_c n _ (xs.take M) w4 HTK.out (by simp; omega)).mono ?_
        rintro e w5 ⟨rfl, x5⟩
        rw [HMM.out, HT.out]
        have X5 := Lib.hid (X4.out.trans x5); clear x5
        go_wp2
        go_ret
        exact ⟨rfl, X5.out⟩
  · go_wp2
    go_ret
    exact ⟨rfl, Below.refl _ _⟩
end Go.Proofs.Ytnpkkfaidejljaa
