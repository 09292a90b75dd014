/- The walk of the law FnSensorApart. No condition. -/
import Derived.Test.YtnpkkfaidejljaaApart
import Derived.Test.YtnpkkfaidejljaaAns
namespace Go.Proofs.Ytnpkkfaidejljaa
open Go.RowKit
open BigFrame

theorem apart_cases (a b : Int) : apart a b = -1 ∧ apart b a = -1 ∨ ∃ x y : Nat, a = x ∧ b = y ∧ x ≤ 4095 ∧ y ≤ 4095 ∧ apart a b = (cnt (bxor x y) : Nat) ∧ apart b a = (cnt (bxor x y) : Nat) := by
  unfold apart
  cases ha : setB a 12
  · exact .inl ⟨rfl, by rw [Bool.and_false]; rfl⟩
  · cases hb : setB b 12
    · exact .inl ⟨rfl, rfl⟩
    · obtain ⟨x, rfl, hx⟩ := setB_iff.1 ha
      obtain ⟨y, rfl, hy⟩ := setB_iff.1 hb
      exact .inr ⟨x, y, rfl, rfl, by omega, by omega, rfl, by rw [bxor_comm']; rfl⟩

set_option maxHeartbeats 2000000 in
theorem FnSensorApart_walk (v : Value) (bs : List Int) (w : World) (hv : Rb w v bs) :
    Calls Try.prog 10 #[v] w fun e w' => e = .returned (.bool true) ∧ Below w.heap.size w w' := by
  have HV := Lib.hid hv
  obtain ⟨a, c, rfl, -, -⟩ := hv
  go_enter Try.func10, Try.ntmps10
  by_cases hl : bs.length ≤ 1048576
  · go_wp2_with fail
    refine (drawSensorApart_c _ bs w HV.out hl).mono ?_
    rintro e w1 ⟨p, q, rfl, x1⟩
    have X1 := Lib.hid x1; clear x1
    have HI := Lib.hid fun w => sensorApartI_c p q w
    have HI2 := Lib.hid fun w => sensorApartI_c q p w
    have HS := Lib.hid fun w => sensorApartS_c p q w
    rcases apart_cases p q with ⟨h1, h2⟩ | ⟨x, y, rfl, rfl, hx, hy, h1, h2⟩
    · rw [h1] at HI HS
      clear h1 h2 HI2
      go_wp2_with (first | (go_at_call 42; refine (HI.out _).mono ?_; rintro e w' ⟨rfl, rfl⟩) | (go_at_call 43; refine (HS.out _).mono ?_; rintro e w' ⟨rfl, rfl⟩))
      go_ret
      exact ⟨rfl, X1.out⟩
    · rw [h1] at HI HS
      rw [h2] at HI2
      have hle := bxor_cnt_le x y
      have hx4 : bxor x y ≤ 4095 := by have := bxor_lt (x := x) (y := y) (n := 12) (by omega) (by omega); omega
      have hz : cnt (bxor x y) = 0 ↔ x = y := (cnt_zero hx4).trans bxor_eq_zero
      have HX := Lib.hid (sizeL_c x hx); have HY := Lib.hid (sizeL_c y hy)
      obtain ⟨D, hD⟩ : ∃ D, D = cnt (bxor x y) := ⟨_, rfl⟩
      obtain ⟨cx, hcx⟩ : ∃ D, D = cnt x := ⟨_, rfl⟩
      obtain ⟨cy, hcy⟩ : ∃ D, D = cnt y := ⟨_, rfl⟩
      rw [← hD] at HI HS HI2 hle hz
      rw [← hcx] at HX hle
      rw [← hcy] at HY hle
      have hc12 : cx ≤ 12 ∧ cy ≤ 12 := by rw [hcx, hcy]; exact ⟨cnt_le _, cnt_le _⟩
      have hle' : decide ((D : Int) ≤ (cx : Int) + (cy : Int)) = true := by simp; omega
      have hlt' : decide ((D : Int) < 0) = false := by simp
      clear h1 h2 hD hcx hcy
      by_cases he : x = y
      · have h0 : ((D : Int) == 0) = true := by simp; exact hz.2 he
        have h1 : ((x : Int) == (y : Int)) = true := by simp [he]
        clear hz he
        go_wp2_with (first | (go_at_call 42; with_reducible refine (HI.out _).mono ?_; rintro e w' ⟨rfl, rfl⟩) | (go_at_call 42; with_reducible refine (HI2.out _).mono ?_; rintro e w' ⟨rfl, rfl⟩) | (go_at_call 43; refine (HS.out _).mono ?_; rintro e w' ⟨rfl, rfl⟩) | (go_at_call 44; with_reducible refine (HX.out _).mono ?_; rintro e w' ⟨rfl, rfl⟩) | (go_at_call 44; with_reducible refine (HY.out _).mono ?_; rintro e w' ⟨rfl, rfl⟩))
        go_ret
        exact ⟨rfl, X1.out⟩
      · have h0 : ((D : Int) == 0) = false := by simp; exact fun h => he (hz.1 h)
        have h1 : ((x : Int) == (y : Int)) = false := by simp; omega
        clear hz he
        go_wp2_with (first | (go_at_call 42; with_reducible refine (HI.out _).mono ?_; rintro e w' ⟨rfl, rfl⟩) | (go_at_call 42; with_reducible refine (HI2.out _).mono ?_; rintro e w' ⟨rfl, rfl⟩) | (go_at_call 43; refine (HS.out _).mono ?_; rintro e w' ⟨rfl, rfl⟩) | (go_at_call 44; with_reducible refine (HX.out _).mono ?_; rintro e w' ⟨rfl, rfl⟩) | (go_at_call 44; with_reducible refine (HY.out _).mono ?_; rintro e w' ⟨rfl, rfl⟩))
        go_ret
        exact ⟨rfl, X1.out⟩
  · go_wp2
    go_ret
    exact ⟨rfl, Below.refl _ _⟩
end Go.Proofs.Ytnpkkfaidejljaa
