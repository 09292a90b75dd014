/- The least code that bears wrong sensors: the reference and the program compute the same plain function. The condition: the list has at most 2^20 numbers. -/
import Derived.Test.YtpmammklklkheaaLeast
import Derived.Test.YtpmammklklkheaaReach
import Derived.Test.YtpmammklklkheaaFound
namespace Go.Proofs.Ytpmammklklkheaa
open Go.RowKit
open BigFrame

def sensorLeast (g : List Int) (t : Int) : Int × Bool := if graphIn g && inB 0 t 4 then loP (lo (fun s => bearsN g s t.toNat) (2 ^ g.length)) else (0, false)
/-- What the reference knows behind k sets. -/
def LoAt (p : Nat → Bool) (n k z m : Nat) : Prop := (lo p k = none ∧ z = 0 ∧ m = n + 1) ∨ (lo p k = some z ∧ m = cnt z ∧ z < k)
theorem LoAt.fin {p : Nat → Bool} {n k z m : Nat} (h : LoAt p n k z m) (hk : k ≤ 2 ^ n) : loP (lo p k) = (((z : Nat) : Int), decide (m ≤ n)) := by
  rcases h with ⟨h1, rfl, rfl⟩ | ⟨h1, rfl, h2⟩
  · rw [h1, decide_eq_false (by omega)]; rfl
  · rw [h1, decide_eq_true (cnt_lt_of_lt (show z < 2 ^ n by omega))]; rfl
theorem LoAt.take {p : Nat → Bool} {n k z m : Nat} (h : LoAt p n k z m) (hk : k < 2 ^ n) (hc : cnt k < m) (hp : p k = true) : LoAt p n (k + 1) k (cnt k) := by
  refine .inr ⟨?_, rfl, by omega⟩
  rcases h with ⟨h1, rfl, rfl⟩ | ⟨h1, rfl, h2⟩
  · rw [lo_none h1, hp]; rfl
  · rw [lo_some h1, hp, decide_eq_true hc]; rfl
theorem LoAt.skip {p : Nat → Bool} {n k z m : Nat} (h : LoAt p n k z m) (hk : k < 2 ^ n) (hp : ¬ cnt k < m ∨ p k = false) : LoAt p n (k + 1) z m := by
  have hle := cnt_lt_of_lt hk
  rcases h with ⟨h1, rfl, rfl⟩ | ⟨h1, rfl, h2⟩
  · refine .inl ⟨?_, rfl, rfl⟩
    rcases hp with hp | hp
    · omega
    · rw [lo_none h1, hp]; rfl
  · refine .inr ⟨?_, rfl, by omega⟩
    rcases hp with hp | hp
    · rw [lo_some h1, decide_eq_false hp]; rfl
    · rw [lo_some h1, hp, Bool.and_false]; rfl

end Go.Proofs.Ytpmammklklkheaa
