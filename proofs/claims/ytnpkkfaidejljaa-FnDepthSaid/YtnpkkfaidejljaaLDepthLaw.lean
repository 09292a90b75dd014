/- The walk of the law FnDepth. No condition. -/
import Derived.Test.YtnpkkfaidejljaaDAsk
import Derived.Test.YtnpkkfaidejljaaGiven
import Derived.Test.YtnpkkfaidejljaaDFacts
import Derived.Test.YtnpkkfaidejljaaApart
namespace Go.Proofs.Ytnpkkfaidejljaa
open Go.RowKit
open BigFrame

theorem dep_lt_cnt {g : List Int} {s : Nat} (hs : s ≤ 4095) (h0 : s ≠ 0) (hd : dep g s < 99) : dep g s < cnt s := by
  have h1 := mt (cnt_zero hs).1 h0
  rcases dep_cnt g s s (Nat.le_refl _) hs h0 with e | e <;> omega
/-- What the depths of a set, and of the set without its least node, give. -/
theorem depth_all {g : List Int} {s : Nat} (hs : s < 64) : askDepth g s = (0, false) ∨ ∃ s1 r n D : Nat, (s : Int) - 1 = (s1 : Int) ∧ r = band s s1 ∧ n = cnt s ∧ n ≤ 12 ∧ D ≤ 11 ∧ askDepth g s = (((D : Nat) : Int), true) ∧ ((r = 0 ∧ D = 0) ∨ r ≠ 0 ∧ D < n ∧ n ≤ 2 ^ D ∧ ∃ E : Nat, E ≤ D ∧ askDepth g r = (((E : Nat) : Int), true)) := by
  cases hf : okD g s
  · exact .inl (by unfold askDepth; rw [hf]; rfl)
  · obtain ⟨k, hk, hG, hlt, hk2, hk0, hd⟩ := okD_iff.1 hf
    obtain rfl : k = s := by omega
    refine .inr ⟨k - 1, band k (k - 1), cnt k, dep g k, by omega, rfl, rfl, cnt_le k, dep_small hk2 (by omega), ?_, ?_⟩
    · unfold askDepth; rw [hf]; rfl
    · by_cases h1 : band k (k - 1) = 0
      · exact .inl ⟨h1, dep_one h1⟩
      · have hsub : band (band k (k - 1)) k = band k (k - 1) := by
          apply Nat.eq_of_testBit_eq
          intro i
          simp only [testBit_band]
          cases k.testBit i <;> simp
        have hle := band_le k (k - 1)
        have hmono := dep_mono g k k (band k (k - 1)) (Nat.le_refl _) hk2 h1 hsub hd
        refine .inr ⟨h1, dep_lt_cnt hk2 hk0 hd, dep_log g k k (Nat.le_refl _) hk2 hk0 hd, dep g (band k (k - 1)), hmono, ?_⟩
        have ok : okD g ((band k (k - 1) : Nat) : Int) = true := okD_iff.2 ⟨band k (k - 1), rfl, hG, by omega, by omega, h1, by omega⟩
        unfold askDepth; rw [ok]; rfl

set_option maxRecDepth 100000 in
set_option maxHeartbeats 1000000 in
theorem FnDepth_walk (v : Value) (bs : List Int) (w : World) (hv : Rb w v bs) :
    Calls Try.prog 21 #[v] w fun e w' => e = .returned (.bool true) ∧ Below w.heap.size w w' := by
  have HV := Lib.hid hv
  obtain ⟨a, c, rfl, -, -⟩ := hv
  go_enter Try.func21, Try.ntmps21
  by_cases hl : bs.length ≤ 1048576
  · go_wp2_with fail
    refine (drawAskDepth_c _ bs w HV.out hl).mono ?_
    rintro e w1 ⟨v1, gs, s, rfl, hn1, hn6, hs, hs64, r1, x1⟩
    obtain ⟨a1, c1, rfl⟩ := r1.form
    have hm : gs.length ≤ 1048576 := by omega
    have R1 := Lib.hid r1; have X1 := Lib.hid x1
    clear r1 x1 hs
    rcases depth_all hs64 with h0 | ⟨s1, r, n, D, hs1, hr, hn, hn12, hD, hA, hC⟩
    · have H0 := Lib.hid h0
      clear h0
      go_wp2_with fail
      refine (askDepthI_c _ gs s w1 R1.out hm).mono ?_
      rintro e w2 ⟨rfl, x2⟩
      rw [H0.out]
      unfold pairV
      have R2 := Lib.hid (R1.out.ext x2); have X2 := Lib.hid (X1.out.trans x2); clear x2
      go_wp2_with fail
      refine (askDepthS_c _ gs s w2 R2.out hm).mono ?_
      rintro e w3 ⟨rfl, x3⟩
      rw [H0.out]
      unfold pairV
      have R3 := Lib.hid (R2.out.ext x3); have X3 := Lib.hid (X2.out.trans x3); clear x3
      go_wp2
      go_ret
      exact ⟨rfl, X3.out⟩
    · have HA := Lib.hid hA
      have HN := Lib.hid hn
      have e1 := bits_and s s1 (by omega) (by omega)
      rw [← hr] at e1
      have HZ := Lib.hid (sizeL_c s (by omega))
      have hrle : r ≤ 4095 := by have := band_le s s1; omega
      clear hA hn hr
      go_wp2_with fail
      refine (askDepthI_c _ gs s w1 R1.out hm).mono ?_
      rintro e w2 ⟨rfl, x2⟩
      rw [HA.out]
      unfold pairV
      have R2 := Lib.hid (R1.out.ext x2); have X2 := Lib.hid (X1.out.trans x2); clear x2
      go_wp2_with fail
      refine (askDepthS_c _ gs s w2 R2.out hm).mono ?_
      rintro e w3 ⟨rfl, x3⟩
      rw [HA.out]
      unfold pairV
      have R3 := Lib.hid (R2.out.ext x3); have X3 := Lib.hid (X2.out.trans x3); clear x3
      go_wp2_with fail
      refine (HZ.out w3).mono ?_
      rintro e w4 ⟨rfl, z4⟩
      have R4 := R3; have X4 := X3
      rw [z4] at R4 X4
      rw [← HN.out]
      clear z4
      rcases hC with ⟨rfl, rfl⟩ | ⟨hr0, hDn, hn2, E, hE, hA2⟩
      · go_wp2
        go_ret
        exact ⟨rfl, X4.out⟩
      · have HA2 := Lib.hid hA2
        obtain ⟨p, hp, hp1, hp2, hp3⟩ := pow_var D (by omega)
        rw [hp] at hn2
        have e0 : min D 64 = D := by omega
        have hr0' : ((r : Int) == 0) = false := by simp; omega
        have f1 : decide (E ≤ D) = true := by simp; omega
        have f2 : decide (D < n) = true := by simp; omega
        have f3 : decide (n ≤ p) = true := by simp; omega
        clear hA2 hp
        go_wp2_with fail
        refine (askDepthI_c _ gs r w4 R4.out hm).mono ?_
        rintro e w5 ⟨rfl, x5⟩
        rw [HA2.out]
        unfold pairV
        have R5 := Lib.hid (R4.out.ext x5); have X5 := Lib.hid (X4.out.trans x5); clear x5
        go_wp2
        go_ret
        exact ⟨rfl, X5.out⟩
  · go_wp2
    go_ret
    exact ⟨rfl, Below.refl _ _⟩
end Go.Proofs.Ytnpkkfaidejljaa
