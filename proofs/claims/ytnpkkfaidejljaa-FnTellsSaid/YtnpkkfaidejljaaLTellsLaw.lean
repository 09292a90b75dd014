/- The walk of the law FnTells. No condition. -/
import Derived.Test.YtnpkkfaidejljaaDraws
import Derived.Test.YtnpkkfaidejljaaLeft
import Derived.Test.YtnpkkfaidejljaaPFacts
namespace Go.Proofs.Ytnpkkfaidejljaa
open Go.RowKit
open BigFrame

theorem pool_tells_small {n d : Nat} {xs : List Int} (h : poolTells n xs d = true) : d ≤ 3 := by
  unfold poolTells at h
  simp only [Bool.and_eq_true] at h
  have := inB_iff.1 h.1.2
  omega
theorem pool_tells_less {n d : Nat} {xs : List Int} (h : poolTells n xs d = true) (h0 : 1 ≤ d) : poolTells n xs ((d - 1 : Nat) : Int) = true ∧ poolClear n xs ((d - 1 : Nat) : Int) = true := by
  unfold poolTells at h
  simp only [Bool.and_eq_true] at h
  obtain ⟨m, hm, hP⟩ := poolIn_iff.1 h.1.1
  obtain rfl : m = n := by omega
  have hd := inB_iff.1 h.1.2
  have ht : tellsTo xs d (2 ^ m) = true := h.2
  have hb : inB 0 ((d - 1 : Nat) : Int) 3 = true := inB_iff.2 ⟨by omega, by omega⟩
  constructor
  · unfold poolTells
    rw [h.1.1, hb]
    exact tellsTo_less (Nat.sub_le d 1) ht
  · unfold poolClear
    rw [h.1.1, hb]
    obtain ⟨e, rfl⟩ : ∃ e, d = e + 1 := ⟨d - 1, by omega⟩
    exact tells_clear hP ht

set_option maxRecDepth 100000 in
set_option maxHeartbeats 1000000 in
theorem FnTells_walk (v : Value) (bs : List Int) (w : World) (hv : Rb w v bs) :
    Calls Try.prog 19 #[v] w fun e w' => e = .returned (.bool true) ∧ Below w.heap.size w w' := by
  have HV := Lib.hid hv
  obtain ⟨a, c, rfl, -, -⟩ := hv
  go_enter Try.func19, Try.ntmps19
  by_cases hl : bs.length ≤ 1048576
  · go_wp2_with fail
    refine (drawPoolTells_c _ bs w HV.out hl).mono ?_
    rintro e w1 ⟨n, v1, xs, x, rfl, hn1, hn6, hxl, r1, x1⟩
    obtain ⟨a1, c1, rfl⟩ := r1.form
    have hm : xs.length ≤ 1048576 := by omega
    have R1 := Lib.hid r1; have X1 := Lib.hid x1
    clear r1 x1
    go_wp2_with fail
    refine (poolTellsI_c n _ xs x w1 R1.out hm).mono ?_
    rintro e w2 ⟨rfl, x2⟩
    have R2 := Lib.hid (R1.out.ext x2); have X2 := Lib.hid (X1.out.trans x2); clear x2
    go_wp2_with fail
    refine (poolTellsS_c n _ xs x w2 R2.out hm).mono ?_
    rintro e w3 ⟨rfl, x3⟩
    have R3 := Lib.hid (R2.out.ext x3); have X3 := Lib.hid (X2.out.trans x3); clear x3
    cases hp : poolTells n xs x
    · go_wp2
      go_ret
      exact ⟨rfl, X3.out⟩
    · by_cases hz : x = 0
      · have hz0 : ((x : Int) == 0) = true := by simp [hz]
        clear hz hp
        go_wp2
        go_ret
        exact ⟨rfl, X3.out⟩
      · have hz0 : ((x : Int) == 0) = false := by simp [hz]
        have HT := Lib.hid (pool_tells_less hp (by omega))
        obtain ⟨y, hy⟩ : ∃ y : Nat, (x : Int) - 1 = (y : Int) := ⟨x - 1, by omega⟩
        have hxy : x - 1 = y := by omega
        have hyb : y ≤ 3 := by have := pool_tells_small hp; omega
        rw [hxy] at HT
        clear hz hp hxy
        go_wp2_with fail
        refine (poolTellsI_c n _ xs y w3 R3.out hm).mono ?_
        rintro e w4 ⟨rfl, x4⟩
        rw [HT.out.1]
        have R4 := Lib.hid (R3.out.ext x4); have X4 := Lib.hid (X3.out.trans x4); clear x4
        by_cases h1 : n = 1
        · have h1' : ((n : Int) == 1) = true := by simp [h1]
          clear h1
          go_wp2
          go_ret
          exact ⟨rfl, X4.out⟩
        · have h1' : ((n : Int) == 1) = false := by simp; omega
          clear h1
          go_wp2_with fail
          refine (poolClearI_c n _ xs y w4 R4.out hm).mono ?_
          rintro e w5 ⟨rfl, x5⟩
          rw [HT.out.2]
          have X5 := Lib.hid (X4.out.trans x5); clear x5
          go_wp2
          go_ret
          exact ⟨rfl, X5.out⟩
  · go_wp2
    go_ret
    exact ⟨rfl, Below.refl _ _⟩
end Go.Proofs.Ytnpkkfaidejljaa
