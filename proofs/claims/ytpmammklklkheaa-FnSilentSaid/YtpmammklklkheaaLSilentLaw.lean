/- The walk of the law FnSilent: silent sensors leave an identifying code. No condition. -/
import Derived.Test.YtpmammklklkheaaDCode
import Derived.Test.YtpmammklklkheaaSilent
import Derived.Test.YtpmammklklkheaaSilentF
namespace Go.Proofs.Ytpmammklklkheaa
open Go.RowKit
open BigFrame

set_option maxHeartbeats 1000000 in
theorem drawSensorSilent_c (v : Value) (bs : List Int) (w : World) (hv : Rb w v bs) (hm : bs.length ≤ 1048576) :
    Calls Try.prog 31 #[v] w fun e w' => ∃ (v' : Value) (gs : List Int) (s : Nat), e = .returned (.tuple #[v', .int .i64 s]) ∧ 1 ≤ gs.length ∧ gs.length ≤ 7 ∧ s ≤ 4095 ∧ Rd w' v' gs ∧ Ext w w' := by
  have HO := Lib.hid (l6Open_c v bs w hv hm)
  obtain ⟨a, c, rfl, -, -⟩ := hv
  clear hm
  go_enter Try.func31, Try.ntmps31
  go_wp2_with fail
  refine HO.out.mono ?_
  rintro e w1 ⟨rfl, r1, -⟩
  have R1 := Lib.hid r1; clear r1
  go_wp2_with fail
  refine (l91Sensors_c w _ 0 _ R1.out (by omega)).mono ?_
  rintro e w2 ⟨v2, gs, s, rfl, h1, h7, hs, o2, r2⟩
  obtain ⟨ga, gc, rfl⟩ := o2.slice h1
  have R2 := Lib.hid r2; have O2 := Lib.hid o2; clear r2 o2
  go_wp2
  go_ret2
  exact ⟨_, gs, s, rfl, h1, h7, hs, O2.out.rd, R2.out.ext⟩
theorem Taken.more {s i f : Nat} (h : Taken s i f) : Taken s (i + 1) f := by
  obtain ⟨t, h1, h2⟩ := h
  exact ⟨t, by omega, h2⟩
theorem Taken.le {s i f : Nat} (h : Taken s i f) : f ≤ s := by
  obtain ⟨t, h1, rfl⟩ := h
  exact without_sub_le s t
theorem cnt_pow_le (q : Nat) : cnt (2 ^ q) ≤ 1 := by
  by_cases h : q < 12
  · have : ∀ q, q < 12 → cnt (2 ^ q) ≤ 1 := by decide
    exact this q h
  · unfold cnt
    rw [List.countP_eq_zero.2]
    · omega
    · intro j hj
      rw [List.mem_range] at hj
      rw [Nat.testBit_two_pow]
      simp; omega
theorem silent_all {g : List Int} {s : Nat} : sensorSilent g s = (0, false) ∨ ∃ n : Nat, n < silMin g s g.length ∧ n ≤ 11 ∧ s < 2 ^ g.length ∧ IsGraph g ∧ sensorSilent g s = (((n : Nat) : Int), true) := by
  cases hc : codeIn g 2 (s : Int)
  · exact .inl (by unfold sensorSilent; rw [hc]; rfl)
  · obtain ⟨K, k, hK, hK3, hk, hlt, hk2, hG, hkind⟩ := codeIn_iff hc
    obtain rfl : k = s := by omega
    obtain rfl : K = 2 := by omega
    have hcap : silMin g k g.length ≤ 12 := silMin_anti g k (Nat.zero_le _)
    have hpos : 0 < silMin g k g.length := by
      rcases Nat.eq_zero_or_pos (silMin g k g.length) with e | e
      · obtain ⟨t, h1, h2, h3⟩ := silMin_hit hG k
        rw [e] at h2
        have ht : t ≤ 4095 := by have := sub_of_part h1; omega
        have h0 := (cnt_zero ht).1 h2
        rw [h0, show without k 0 = k from by apply Nat.eq_of_testBit_eq; intro i; simp [testBit_without], hkind] at h3
        cases h3
      · exact e
    refine .inr ⟨silMin g k g.length - 1, by omega, by omega, hlt, hG, ?_⟩
    unfold sensorSilent
    rw [hc, if_pos rfl]
    exact Prod.ext (show ((silMin g k g.length : Nat) : Int) - 1 = _ by omega) rfl
theorem code_kind {g : List Int} {f : Nat} (hG : IsGraph g) (hf : f < 2 ^ g.length) (h : kindN g 2 f = true) : codeIn g 2 (f : Int) = true := by
  unfold codeIn
  rw [graphIn_iff.2 hG, setB_iff.2 ⟨f, rfl, hf⟩]
  exact h

set_option maxRecDepth 100000 in
set_option maxHeartbeats 2000000 in
theorem FnSilent_walk (v : Value) (bs : List Int) (w : World) (hv : Rb w v bs) :
    Calls Try.prog 8 #[v] w fun e w' => e = .returned (.bool true) ∧ Below w.heap.size w w' := by
  have HV := Lib.hid hv
  obtain ⟨a, c, rfl, -, -⟩ := hv
  go_enter Try.func8, Try.ntmps8
  by_cases hl : bs.length ≤ 1048576
  · go_wp2_with fail
    refine (drawSensorSilent_c _ bs w HV.out hl).mono ?_
    rintro e w1 ⟨v1, gs, s, rfl, hn1, hn7, hs, r1, x1⟩
    obtain ⟨a1, c1, rfl⟩ := r1.form
    have hm : gs.length ≤ 1048576 := by omega
    have R1 := Lib.hid r1; have X1 := Lib.hid x1
    clear r1 x1
    rcases silent_all (g := gs) (s := s) with h0 | ⟨n, hn, hn11, hlt, hG, hS⟩
    · have H0 := Lib.hid h0
      clear h0
      go_wp2_with fail
      refine (sensorSilentI_c _ gs s w1 R1.out hm).mono ?_
      rintro e w2 ⟨rfl, x2⟩
      rw [H0.out]
      unfold pairV
      have R2 := Lib.hid (R1.out.ext x2); have X2 := Lib.hid (X1.out.trans x2); clear x2
      go_wp2_with fail
      refine (sensorSilentS_c _ gs s w2 R2.out hm).mono ?_
      rintro e w3 ⟨rfl, x3⟩
      rw [H0.out]
      unfold pairV
      have R3 := Lib.hid (R2.out.ext x3); have X3 := Lib.hid (X2.out.trans x3); clear x3
      go_wp2
      go_ret
      exact ⟨rfl, X3.out⟩
    · have HN := Lib.hid hn; have HLT := Lib.hid hlt; have HG := Lib.hid hG; have HS := Lib.hid hS
      clear hn hlt hG hS
      go_wp2_with fail
      refine (sensorSilentI_c _ gs s w1 R1.out hm).mono ?_
      rintro e w2 ⟨rfl, x2⟩
      rw [HS.out]
      unfold pairV
      have R2 := Lib.hid (R1.out.ext x2); have X2 := Lib.hid (X1.out.trans x2); clear x2
      go_wp2_with fail
      refine (sensorSilentS_c _ gs s w2 R2.out hm).mono ?_
      rintro e w3 ⟨rfl, x3⟩
      rw [HS.out]
      unfold pairV
      have R3 := Lib.hid (R2.out.ext x3); have X3 := Lib.hid (X2.out.trans x3); clear x3
      go_wp2
      go_loopw [9, 10, 11] (fun a b i wr => ∃ (k f l : Nat), k ≤ n ∧ f ≤ 4095 ∧ l ≤ 4095 ∧ a = .int .i64 f ∧ b = .int .i64 l ∧ i = .int .i64 k ∧ Hid (Taken s k f) ∧ Hid (Taken s k l) ∧ w3 = wr) (fun _ _ i _ => n - (intOf i).toNat)
      case atStart => exact ⟨0, s, s, Nat.zero_le _, hs, hs, rfl, rfl, rfl, Taken.start s, Taken.start s, rfl⟩
      case round =>
        obtain ⟨k, f, l, hk, hf, hll, rfl, rfl, rfl, HF, HL, rfl⟩ := hrel
        by_cases hkn : k < n
        · have hf0 : f ≠ 0 := HF.out.pos HG.out (by have := HN.out; omega)
          obtain ⟨f1, hf1, hf12⟩ : ∃ f1 : Nat, (f : Int) - 1 = (f1 : Int) ∧ f1 = f - 1 := ⟨f - 1, by omega, rfl⟩
          have e1 := bits_and f f1 (by omega) (by omega)
          have HF2 : Hid (Taken s (k + 1) (band f f1)) := by rw [hf12]; exact HF.out.low hf
          have hfb : band f f1 ≤ 4095 := by have : band f f1 ≤ f := Nat.and_le_left; omega
          generalize band f f1 = f2 at e1 HF2 hfb
          clear hf12 hf0
          go_wp2
          go_loopw [10, 12] (fun b q wr => ∃ (l : Nat) (K : Int), -2 ≤ K ∧ K ≤ 29 ∧ l ≤ 4095 ∧ b = .int .i64 l ∧ q = .int .i64 K ∧ Hid (Taken s (k + 1) l) ∧ Hid (0 ≤ K → Taken s k l) ∧ w3 = wr) (fun _ q _ => (intOf q + 2).toNat)
          case atStart => exact ⟨l, 29, by omega, by omega, hll, rfl, rfl, HL.out.more, fun _ => HL.out, rfl⟩
          case round =>
            clear HL hll
            obtain ⟨l, K, hK1, hK2, hll, rfl, rfl, HL1, HL, rfl⟩ := hrel
            by_cases hK : 0 ≤ K
            · obtain ⟨q, rfl⟩ : ∃ q : Nat, K = (q : Int) := ⟨K.toNat, by omega⟩
              have HL0 := Lib.hid (HL.out hK)
              obtain ⟨p, hp, hp1, hp2, hp3⟩ := pow_var q (by omega)
              have hp4 : p ≤ 536870912 := by rw [← hp]; exact (Nat.pow_le_pow_right (by omega) (by omega) : 2 ^ q ≤ 2 ^ 29)
              have e0 : min q 64 = q := by omega
              have g1 := div_pow_nat l q
              have g2 : bits .and .i64 (shr l q : Int) 1 = (band (shr l q) 1 : Int) := bits_and (shr l q) 1 (Nat.lt_of_le_of_lt (Nat.shiftRight_le _ _) (by omega)) (by omega)
              have g3 := bit_shift l q
              have g4 := bits_andNot l p (by omega) (by omega)
              have HL2 : Hid (Taken s (k + 1) (without l p)) := by rw [← hp]; exact HL0.out.out (cnt_pow_le q)
              have hlb : without l p ≤ 4095 := by have := without_sub_le l p; omega
              generalize without l p = l2 at g4 HL2 hlb
              obtain ⟨T, hT⟩ : ∃ T, l.testBit q = T := ⟨_, rfl⟩
              rw [hT] at g3
              rw [g3] at g2
              obtain ⟨K1, hK3, hK4⟩ : ∃ K1 : Int, (q : Int) - 1 = K1 ∧ -1 ≤ K1 := ⟨_, rfl, by omega⟩
              have HK1 := Lib.hid hK3
              rw [hp1] at g1
              clear hT hp g3
              cases T
              · have g5 : bits .and .i64 (shr l q : Int) 1 = 0 := g2
                clear g2
                go_wp2
                go_roundw
                case rel => exact ⟨l, K1, by omega, by omega, hll, rfl, rfl, HL1, fun _ => HL0.out, trivial⟩
                case measure => simp [intOf]; omega
              · have g5 : bits .and .i64 (shr l q : Int) 1 = 1 := g2
                clear g2 HK1 hK3
                go_wp2
                go_roundw
                case rel => exact ⟨l2, -2, by omega, by omega, hlb, rfl, rfl, HL2, fun h => by omega, trivial⟩
                case measure => simp [intOf]; omega
            · have hKn : K < 0 := by omega
              go_wp2
              go_roundw
              case rel => exact ⟨k + 1, f2, l, by omega, hfb, hll, rfl, rfl, by go_num, HF2, HL1, trivial⟩
              case measure => simp [intOf]; omega
        · obtain rfl : k = n := by omega
          have HC1 := Lib.hid (code_kind HG.out (Nat.lt_of_le_of_lt HF.out.le HLT.out) (HF.out.kind HN.out))
          have HC2 := Lib.hid (code_kind HG.out (Nat.lt_of_le_of_lt HL.out.le HLT.out) (HL.out.kind HN.out))
          go_wp2_with fail
          refine (codeInI_c _ gs 2 f w3 R3.out hm).mono ?_
          rintro e w4 ⟨rfl, x4⟩
          rw [HC1.out]
          have R4 := Lib.hid (R3.out.ext x4); have X4 := Lib.hid (X3.out.trans x4); clear x4
          go_wp2_with fail
          refine (codeInI_c _ gs 2 l w4 R4.out hm).mono ?_
          rintro e w5 ⟨rfl, x5⟩
          rw [HC2.out]
          have R5 := Lib.hid (R4.out.ext x5); have X5 := Lib.hid (X4.out.trans x5); clear x5
          go_wp2
          go_ret
          exact ⟨rfl, X5.out⟩
  · go_wp2
    go_ret
    exact ⟨rfl, Below.refl _ _⟩
end Go.Proofs.Ytpmammklklkheaa
