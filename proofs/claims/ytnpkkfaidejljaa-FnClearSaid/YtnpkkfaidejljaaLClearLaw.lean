/- The walk of the law FnClear. No condition. -/
import Derived.Test.YtnpkkfaidejljaaDraws
import Derived.Test.YtnpkkfaidejljaaLeft
import Derived.Test.YtnpkkfaidejljaaPFacts
namespace Go.Proofs.Ytnpkkfaidejljaa
open Go.RowKit
open BigFrame

theorem poolClear_iff {n d : Nat} {xs : List Int} (h : poolClear n xs d = true) : IsPool n xs ∧ d ≤ 3 ∧ poolIn n xs = true ∧ (List.range n).all (clearRow xs d (2 ^ n)) = true := by
  unfold poolClear at h
  simp only [Bool.and_eq_true] at h
  obtain ⟨m, hm, hP⟩ := poolIn_iff.1 h.1.1
  have : m = n := by omega
  subst this
  have hd := inB_iff.1 h.1.2
  exact ⟨hP, by omega, h.1.1, h.2⟩
theorem poolTells_of {n d : Nat} {xs : List Int} (h : poolIn n xs = true) (hd : d ≤ 3) (ht : tellsTo xs d (2 ^ n) = true) : poolTells n xs d = true := by
  unfold poolTells
  rw [h, inB_iff.2 ⟨by omega, by omega⟩]
  exact ht
theorem pool_clear_tells {n d : Nat} {xs : List Int} (h : poolClear n xs d = true) : poolTells n xs d = true := by
  obtain ⟨hP, hd, hi, hc⟩ := poolClear_iff h
  exact poolTells_of hi hd (clear_tells hP hc)

set_option maxRecDepth 100000 in
set_option maxHeartbeats 4000000 in
theorem FnClear_walk (v : Value) (bs : List Int) (w : World) (hv : Rb w v bs) :
    Calls Try.prog 17 #[v] w fun e w' => e = .returned (.bool true) ∧ Below w.heap.size w w' := by
  have HV := Lib.hid hv
  obtain ⟨a, c, rfl, -, -⟩ := hv
  go_enter Try.func17, Try.ntmps17
  by_cases hl : bs.length ≤ 1048576
  · go_wp2_with fail
    refine (drawPoolClear_c _ bs w HV.out hl).mono ?_
    rintro e w1 ⟨n, v1, xs, x, rfl, hn1, hn6, hxl, r1, x1⟩
    obtain ⟨a1, c1, rfl⟩ := r1.form
    have hm : xs.length ≤ 1048576 := by omega
    have R1 := Lib.hid r1; have X1 := Lib.hid x1
    clear r1 x1
    go_wp2_with fail
    refine (poolClearI_c n _ xs x w1 R1.out hm).mono ?_
    rintro e w2 ⟨rfl, x2⟩
    have R2 := Lib.hid (R1.out.ext x2); have X2 := Lib.hid (X1.out.trans x2); clear x2
    go_wp2_with fail
    refine (poolClearS_c n _ xs x w2 R2.out hm).mono ?_
    rintro e w3 ⟨rfl, x3⟩
    have R3 := Lib.hid (R2.out.ext x3); have X3 := Lib.hid (X2.out.trans x3); clear x3
    cases hp : poolClear n xs x
    · go_wp2
      go_ret
      exact ⟨rfl, X3.out⟩
    · have HT : Hid (poolTells n xs x = true) := pool_clear_tells hp
      clear hp
      go_wp2_with fail
      refine (poolTellsI_c n _ xs x w3 R3.out hm).mono ?_
      rintro e w4 ⟨rfl, x4⟩
      rw [HT.out]
      have X4 := Lib.hid (X3.out.trans x4); clear x4
      go_wp2
      go_ret
      exact ⟨rfl, X4.out⟩
  · go_wp2
    go_ret
    exact ⟨rfl, Below.refl _ _⟩
end Go.Proofs.Ytnpkkfaidejljaa
