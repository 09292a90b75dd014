/- What the walks of this seat rest on, one part: plain facts, and contracts of the functions that they reach. Each states its own condition. -/
import Derived.Test.YtkmfmhckpfomeaaGreatDoorB24
import Derived.Test.YtkmfmhckpfomeaaGreatDoorB27
import Derived.Test.YtkmfmhckpfomeaaGreatDoorB9
import Derived.Test.YtkmfmhckpfomeaaGreatDoorB18
import Derived.Laws.Strings
set_option linter.all false
set_option linter.unusedSimpArgs false
set_option linter.unusedVariables false
/- A word of a script, the reference's side: l7Kinds, l7Bare. No condition. -/
namespace Go.Proofs.YtkmfmhckpfomeaaGreatDoor
open Go.RowKit
open BigFrame
attribute [local go_sem] Oper.semAt_some

/-- S is the word i, or none if i is 0. -/
def Word (S : ByteArray) (i : Nat) : Prop := ∀ j, 1 ≤ j → j ≤ 16 → (S.toList == wordOf j) = decide (i = j)
theorem Word.of (l : List UInt8) : Word ⟨l.toArray⟩ (cmdIx l) := fun j h1 h16 => by
  rw [ByteArray.toList_mk, Bool.eq_iff_iff, beq_iff_eq, decide_eq_true_iff]
  constructor
  · intro e; rw [e]; exact cmdIx_of j h16
  · intro e; exact cmdIx_word e (by omega)
def kindsN (i : Nat) : Int := [0, 2, 2, 0, 1, 1, 1, 0, 0, 0, 1, 0, 0, 2, 0, 1, 1].getD i 0
def nl (r : Res) : List UInt8 := match r with
  | none => [110, 111, 10]
  | some t => t.1 ++ [10]
noncomputable def bareR (i : Nat) (g : List Int) (c : Nat) : List UInt8 := if i = 7 ∨ i = 8 ∨ i = 9 ∨ i = 11 ∨ i = 12 ∨ i = 14 then nl (cmdR i g c 0 0) else whatS ++ [10]
set_option maxRecDepth 100000 in
set_option maxHeartbeats 8000000 in
theorem l7Kinds_c (S : ByteArray) (i : Nat) (hi : i ≤ 16) (hS : Word S i) (w : World) : Calls Tryz.prog 56 #[.string S] w fun e w' => e = .returned (.int .i64 (kindsN i)) ∧ w' = w := by
  have hcases : i = 0 ∨ i = 1 ∨ i = 2 ∨ i = 3 ∨ i = 4 ∨ i = 5 ∨ i = 6 ∨ i = 7 ∨ i = 8 ∨ i = 9 ∨ i = 10 ∨ i = 11 ∨ i = 12 ∨ i = 13 ∨ i = 14 ∨ i = 15 ∨ i = 16 := by omega
  rcases hcases with rfl | rfl | rfl | rfl | rfl | rfl | rfl | rfl | rfl | rfl | rfl | rfl | rfl | rfl | rfl | rfl | rfl
  · have t1 : (S.toList == [103, 114, 97, 112, 104]) = false := hS 1 (by omega) (by omega)
    have t2 : (S.toList == [101, 100, 103, 101]) = false := hS 2 (by omega) (by omega)
    have t13 : (S.toList == [97, 108, 97, 114, 109]) = false := hS 13 (by omega) (by omega)
    have t4 : (S.toList == [99, 111, 100, 101]) = false := hS 4 (by omega) (by omega)
    have t5 : (S.toList == [108, 101, 97, 115, 116]) = false := hS 5 (by omega) (by omega)
    have t6 : (S.toList == [116, 104, 105, 110]) = false := hS 6 (by omega) (by omega)
    have t10 : (S.toList == [105, 110]) = false := hS 10 (by omega) (by omega)
    have t15 : (S.toList == [112, 108, 97, 121]) = false := hS 15 (by omega) (by omega)
    have t16 : (S.toList == [116, 101, 108, 108, 115]) = false := hS 16 (by omega) (by omega)
    clear hS hi
    go_enter Tryz.func56, Tryz.ntmps56
    go_wp2
    go_ret
    exact ⟨rfl, rfl⟩
  · have t1 : (S.toList == [103, 114, 97, 112, 104]) = true := hS 1 (by omega) (by omega)
    have t2 : (S.toList == [101, 100, 103, 101]) = false := hS 2 (by omega) (by omega)
    have t13 : (S.toList == [97, 108, 97, 114, 109]) = false := hS 13 (by omega) (by omega)
    have t4 : (S.toList == [99, 111, 100, 101]) = false := hS 4 (by omega) (by omega)
    have t5 : (S.toList == [108, 101, 97, 115, 116]) = false := hS 5 (by omega) (by omega)
    have t6 : (S.toList == [116, 104, 105, 110]) = false := hS 6 (by omega) (by omega)
    have t10 : (S.toList == [105, 110]) = false := hS 10 (by omega) (by omega)
    have t15 : (S.toList == [112, 108, 97, 121]) = false := hS 15 (by omega) (by omega)
    have t16 : (S.toList == [116, 101, 108, 108, 115]) = false := hS 16 (by omega) (by omega)
    clear hS hi
    go_enter Tryz.func56, Tryz.ntmps56
    go_wp2
    go_ret
    exact ⟨rfl, rfl⟩
  · have t1 : (S.toList == [103, 114, 97, 112, 104]) = false := hS 1 (by omega) (by omega)
    have t2 : (S.toList == [101, 100, 103, 101]) = true := hS 2 (by omega) (by omega)
    have t13 : (S.toList == [97, 108, 97, 114, 109]) = false := hS 13 (by omega) (by omega)
    have t4 : (S.toList == [99, 111, 100, 101]) = false := hS 4 (by omega) (by omega)
    have t5 : (S.toList == [108, 101, 97, 115, 116]) = false := hS 5 (by omega) (by omega)
    have t6 : (S.toList == [116, 104, 105, 110]) = false := hS 6 (by omega) (by omega)
    have t10 : (S.toList == [105, 110]) = false := hS 10 (by omega) (by omega)
    have t15 : (S.toList == [112, 108, 97, 121]) = false := hS 15 (by omega) (by omega)
    have t16 : (S.toList == [116, 101, 108, 108, 115]) = false := hS 16 (by omega) (by omega)
    clear hS hi
    go_enter Tryz.func56, Tryz.ntmps56
    go_wp2
    go_ret
    exact ⟨rfl, rfl⟩
  · have t1 : (S.toList == [103, 114, 97, 112, 104]) = false := hS 1 (by omega) (by omega)
    have t2 : (S.toList == [101, 100, 103, 101]) = false := hS 2 (by omega) (by omega)
    have t13 : (S.toList == [97, 108, 97, 114, 109]) = false := hS 13 (by omega) (by omega)
    have t4 : (S.toList == [99, 111, 100, 101]) = false := hS 4 (by omega) (by omega)
    have t5 : (S.toList == [108, 101, 97, 115, 116]) = false := hS 5 (by omega) (by omega)
    have t6 : (S.toList == [116, 104, 105, 110]) = false := hS 6 (by omega) (by omega)
    have t10 : (S.toList == [105, 110]) = false := hS 10 (by omega) (by omega)
    have t15 : (S.toList == [112, 108, 97, 121]) = false := hS 15 (by omega) (by omega)
    have t16 : (S.toList == [116, 101, 108, 108, 115]) = false := hS 16 (by omega) (by omega)
    clear hS hi
    go_enter Tryz.func56, Tryz.ntmps56
    go_wp2
    go_ret
    exact ⟨rfl, rfl⟩
  · have t1 : (S.toList == [103, 114, 97, 112, 104]) = false := hS 1 (by omega) (by omega)
    have t2 : (S.toList == [101, 100, 103, 101]) = false := hS 2 (by omega) (by omega)
    have t13 : (S.toList == [97, 108, 97, 114, 109]) = false := hS 13 (by omega) (by omega)
    have t4 : (S.toList == [99, 111, 100, 101]) = true := hS 4 (by omega) (by omega)
    have t5 : (S.toList == [108, 101, 97, 115, 116]) = false := hS 5 (by omega) (by omega)
    have t6 : (S.toList == [116, 104, 105, 110]) = false := hS 6 (by omega) (by omega)
    have t10 : (S.toList == [105, 110]) = false := hS 10 (by omega) (by omega)
    have t15 : (S.toList == [112, 108, 97, 121]) = false := hS 15 (by omega) (by omega)
    have t16 : (S.toList == [116, 101, 108, 108, 115]) = false := hS 16 (by omega) (by omega)
    clear hS hi
    go_enter Tryz.func56, Tryz.ntmps56
    go_wp2
    go_ret
    exact ⟨rfl, rfl⟩
  · have t1 : (S.toList == [103, 114, 97, 112, 104]) = false := hS 1 (by omega) (by omega)
    have t2 : (S.toList == [101, 100, 103, 101]) = false := hS 2 (by omega) (by omega)
    have t13 : (S.toList == [97, 108, 97, 114, 109]) = false := hS 13 (by omega) (by omega)
    have t4 : (S.toList == [99, 111, 100, 101]) = false := hS 4 (by omega) (by omega)
    have t5 : (S.toList == [108, 101, 97, 115, 116]) = true := hS 5 (by omega) (by omega)
    have t6 : (S.toList == [116, 104, 105, 110]) = false := hS 6 (by omega) (by omega)
    have t10 : (S.toList == [105, 110]) = false := hS 10 (by omega) (by omega)
    have t15 : (S.toList == [112, 108, 97, 121]) = false := hS 15 (by omega) (by omega)
    have t16 : (S.toList == [116, 101, 108, 108, 115]) = false := hS 16 (by omega) (by omega)
    clear hS hi
    go_enter Tryz.func56, Tryz.ntmps56
    go_wp2
    go_ret
    exact ⟨rfl, rfl⟩
  · have t1 : (S.toList == [103, 114, 97, 112, 104]) = false := hS 1 (by omega) (by omega)
    have t2 : (S.toList == [101, 100, 103, 101]) = false := hS 2 (by omega) (by omega)
    have t13 : (S.toList == [97, 108, 97, 114, 109]) = false := hS 13 (by omega) (by omega)
    have t4 : (S.toList == [99, 111, 100, 101]) = false := hS 4 (by omega) (by omega)
    have t5 : (S.toList == [108, 101, 97, 115, 116]) = false := hS 5 (by omega) (by omega)
    have t6 : (S.toList == [116, 104, 105, 110]) = true := hS 6 (by omega) (by omega)
    have t10 : (S.toList == [105, 110]) = false := hS 10 (by omega) (by omega)
    have t15 : (S.toList == [112, 108, 97, 121]) = false := hS 15 (by omega) (by omega)
    have t16 : (S.toList == [116, 101, 108, 108, 115]) = false := hS 16 (by omega) (by omega)
    clear hS hi
    go_enter Tryz.func56, Tryz.ntmps56
    go_wp2
    go_ret
    exact ⟨rfl, rfl⟩
  · have t1 : (S.toList == [103, 114, 97, 112, 104]) = false := hS 1 (by omega) (by omega)
    have t2 : (S.toList == [101, 100, 103, 101]) = false := hS 2 (by omega) (by omega)
    have t13 : (S.toList == [97, 108, 97, 114, 109]) = false := hS 13 (by omega) (by omega)
    have t4 : (S.toList == [99, 111, 100, 101]) = false := hS 4 (by omega) (by omega)
    have t5 : (S.toList == [108, 101, 97, 115, 116]) = false := hS 5 (by omega) (by omega)
    have t6 : (S.toList == [116, 104, 105, 110]) = false := hS 6 (by omega) (by omega)
    have t10 : (S.toList == [105, 110]) = false := hS 10 (by omega) (by omega)
    have t15 : (S.toList == [112, 108, 97, 121]) = false := hS 15 (by omega) (by omega)
    have t16 : (S.toList == [116, 101, 108, 108, 115]) = false := hS 16 (by omega) (by omega)
    clear hS hi
    go_enter Tryz.func56, Tryz.ntmps56
    go_wp2
    go_ret
    exact ⟨rfl, rfl⟩
  · have t1 : (S.toList == [103, 114, 97, 112, 104]) = false := hS 1 (by omega) (by omega)
    have t2 : (S.toList == [101, 100, 103, 101]) = false := hS 2 (by omega) (by omega)
    have t13 : (S.toList == [97, 108, 97, 114, 109]) = false := hS 13 (by omega) (by omega)
    have t4 : (S.toList == [99, 111, 100, 101]) = false := hS 4 (by omega) (by omega)
    have t5 : (S.toList == [108, 101, 97, 115, 116]) = false := hS 5 (by omega) (by omega)
    have t6 : (S.toList == [116, 104, 105, 110]) = false := hS 6 (by omega) (by omega)
    have t10 : (S.toList == [105, 110]) = false := hS 10 (by omega) (by omega)
    have t15 : (S.toList == [112, 108, 97, 121]) = false := hS 15 (by omega) (by omega)
    have t16 : (S.toList == [116, 101, 108, 108, 115]) = false := hS 16 (by omega) (by omega)
    clear hS hi
    go_enter Tryz.func56, Tryz.ntmps56
    go_wp2
    go_ret
    exact ⟨rfl, rfl⟩
  · have t1 : (S.toList == [103, 114, 97, 112, 104]) = false := hS 1 (by omega) (by omega)
    have t2 : (S.toList == [101, 100, 103, 101]) = false := hS 2 (by omega) (by omega)
    have t13 : (S.toList == [97, 108, 97, 114, 109]) = false := hS 13 (by omega) (by omega)
    have t4 : (S.toList == [99, 111, 100, 101]) = false := hS 4 (by omega) (by omega)
    have t5 : (S.toList == [108, 101, 97, 115, 116]) = false := hS 5 (by omega) (by omega)
    have t6 : (S.toList == [116, 104, 105, 110]) = false := hS 6 (by omega) (by omega)
    have t10 : (S.toList == [105, 110]) = false := hS 10 (by omega) (by omega)
    have t15 : (S.toList == [112, 108, 97, 121]) = false := hS 15 (by omega) (by omega)
    have t16 : (S.toList == [116, 101, 108, 108, 115]) = false := hS 16 (by omega) (by omega)
    clear hS hi
    go_enter Tryz.func56, Tryz.ntmps56
    go_wp2
    go_ret
    exact ⟨rfl, rfl⟩
  · have t1 : (S.toList == [103, 114, 97, 112, 104]) = false := hS 1 (by omega) (by omega)
    have t2 : (S.toList == [101, 100, 103, 101]) = false := hS 2 (by omega) (by omega)
    have t13 : (S.toList == [97, 108, 97, 114, 109]) = false := hS 13 (by omega) (by omega)
    have t4 : (S.toList == [99, 111, 100, 101]) = false := hS 4 (by omega) (by omega)
    have t5 : (S.toList == [108, 101, 97, 115, 116]) = false := hS 5 (by omega) (by omega)
    have t6 : (S.toList == [116, 104, 105, 110]) = false := hS 6 (by omega) (by omega)
    have t10 : (S.toList == [105, 110]) = true := hS 10 (by omega) (by omega)
    have t15 : (S.toList == [112, 108, 97, 121]) = false := hS 15 (by omega) (by omega)
    have t16 : (S.toList == [116, 101, 108, 108, 115]) = false := hS 16 (by omega) (by omega)
    clear hS hi
    go_enter Tryz.func56, Tryz.ntmps56
    go_wp2
    go_ret
    exact ⟨rfl, rfl⟩
  · have t1 : (S.toList == [103, 114, 97, 112, 104]) = false := hS 1 (by omega) (by omega)
    have t2 : (S.toList == [101, 100, 103, 101]) = false := hS 2 (by omega) (by omega)
    have t13 : (S.toList == [97, 108, 97, 114, 109]) = false := hS 13 (by omega) (by omega)
    have t4 : (S.toList == [99, 111, 100, 101]) = false := hS 4 (by omega) (by omega)
    have t5 : (S.toList == [108, 101, 97, 115, 116]) = false := hS 5 (by omega) (by omega)
    have t6 : (S.toList == [116, 104, 105, 110]) = false := hS 6 (by omega) (by omega)
    have t10 : (S.toList == [105, 110]) = false := hS 10 (by omega) (by omega)
    have t15 : (S.toList == [112, 108, 97, 121]) = false := hS 15 (by omega) (by omega)
    have t16 : (S.toList == [116, 101, 108, 108, 115]) = false := hS 16 (by omega) (by omega)
    clear hS hi
    go_enter Tryz.func56, Tryz.ntmps56
    go_wp2
    go_ret
    exact ⟨rfl, rfl⟩
  · have t1 : (S.toList == [103, 114, 97, 112, 104]) = false := hS 1 (by omega) (by omega)
    have t2 : (S.toList == [101, 100, 103, 101]) = false := hS 2 (by omega) (by omega)
    have t13 : (S.toList == [97, 108, 97, 114, 109]) = false := hS 13 (by omega) (by omega)
    have t4 : (S.toList == [99, 111, 100, 101]) = false := hS 4 (by omega) (by omega)
    have t5 : (S.toList == [108, 101, 97, 115, 116]) = false := hS 5 (by omega) (by omega)
    have t6 : (S.toList == [116, 104, 105, 110]) = false := hS 6 (by omega) (by omega)
    have t10 : (S.toList == [105, 110]) = false := hS 10 (by omega) (by omega)
    have t15 : (S.toList == [112, 108, 97, 121]) = false := hS 15 (by omega) (by omega)
    have t16 : (S.toList == [116, 101, 108, 108, 115]) = false := hS 16 (by omega) (by omega)
    clear hS hi
    go_enter Tryz.func56, Tryz.ntmps56
    go_wp2
    go_ret
    exact ⟨rfl, rfl⟩
  · have t1 : (S.toList == [103, 114, 97, 112, 104]) = false := hS 1 (by omega) (by omega)
    have t2 : (S.toList == [101, 100, 103, 101]) = false := hS 2 (by omega) (by omega)
    have t13 : (S.toList == [97, 108, 97, 114, 109]) = true := hS 13 (by omega) (by omega)
    have t4 : (S.toList == [99, 111, 100, 101]) = false := hS 4 (by omega) (by omega)
    have t5 : (S.toList == [108, 101, 97, 115, 116]) = false := hS 5 (by omega) (by omega)
    have t6 : (S.toList == [116, 104, 105, 110]) = false := hS 6 (by omega) (by omega)
    have t10 : (S.toList == [105, 110]) = false := hS 10 (by omega) (by omega)
    have t15 : (S.toList == [112, 108, 97, 121]) = false := hS 15 (by omega) (by omega)
    have t16 : (S.toList == [116, 101, 108, 108, 115]) = false := hS 16 (by omega) (by omega)
    clear hS hi
    go_enter Tryz.func56, Tryz.ntmps56
    go_wp2
    go_ret
    exact ⟨rfl, rfl⟩
  · have t1 : (S.toList == [103, 114, 97, 112, 104]) = false := hS 1 (by omega) (by omega)
    have t2 : (S.toList == [101, 100, 103, 101]) = false := hS 2 (by omega) (by omega)
    have t13 : (S.toList == [97, 108, 97, 114, 109]) = false := hS 13 (by omega) (by omega)
    have t4 : (S.toList == [99, 111, 100, 101]) = false := hS 4 (by omega) (by omega)
    have t5 : (S.toList == [108, 101, 97, 115, 116]) = false := hS 5 (by omega) (by omega)
    have t6 : (S.toList == [116, 104, 105, 110]) = false := hS 6 (by omega) (by omega)
    have t10 : (S.toList == [105, 110]) = false := hS 10 (by omega) (by omega)
    have t15 : (S.toList == [112, 108, 97, 121]) = false := hS 15 (by omega) (by omega)
    have t16 : (S.toList == [116, 101, 108, 108, 115]) = false := hS 16 (by omega) (by omega)
    clear hS hi
    go_enter Tryz.func56, Tryz.ntmps56
    go_wp2
    go_ret
    exact ⟨rfl, rfl⟩
  · have t1 : (S.toList == [103, 114, 97, 112, 104]) = false := hS 1 (by omega) (by omega)
    have t2 : (S.toList == [101, 100, 103, 101]) = false := hS 2 (by omega) (by omega)
    have t13 : (S.toList == [97, 108, 97, 114, 109]) = false := hS 13 (by omega) (by omega)
    have t4 : (S.toList == [99, 111, 100, 101]) = false := hS 4 (by omega) (by omega)
    have t5 : (S.toList == [108, 101, 97, 115, 116]) = false := hS 5 (by omega) (by omega)
    have t6 : (S.toList == [116, 104, 105, 110]) = false := hS 6 (by omega) (by omega)
    have t10 : (S.toList == [105, 110]) = false := hS 10 (by omega) (by omega)
    have t15 : (S.toList == [112, 108, 97, 121]) = true := hS 15 (by omega) (by omega)
    have t16 : (S.toList == [116, 101, 108, 108, 115]) = false := hS 16 (by omega) (by omega)
    clear hS hi
    go_enter Tryz.func56, Tryz.ntmps56
    go_wp2
    go_ret
    exact ⟨rfl, rfl⟩
  · have t1 : (S.toList == [103, 114, 97, 112, 104]) = false := hS 1 (by omega) (by omega)
    have t2 : (S.toList == [101, 100, 103, 101]) = false := hS 2 (by omega) (by omega)
    have t13 : (S.toList == [97, 108, 97, 114, 109]) = false := hS 13 (by omega) (by omega)
    have t4 : (S.toList == [99, 111, 100, 101]) = false := hS 4 (by omega) (by omega)
    have t5 : (S.toList == [108, 101, 97, 115, 116]) = false := hS 5 (by omega) (by omega)
    have t6 : (S.toList == [116, 104, 105, 110]) = false := hS 6 (by omega) (by omega)
    have t10 : (S.toList == [105, 110]) = false := hS 10 (by omega) (by omega)
    have t15 : (S.toList == [112, 108, 97, 121]) = false := hS 15 (by omega) (by omega)
    have t16 : (S.toList == [116, 101, 108, 108, 115]) = true := hS 16 (by omega) (by omega)
    clear hS hi
    go_enter Tryz.func56, Tryz.ntmps56
    go_wp2
    go_ret
    exact ⟨rfl, rfl⟩
set_option maxRecDepth 100000 in
set_option maxHeartbeats 8000000 in
theorem l7Bare7_c (S : ByteArray) (k m : Nat) (g : List Int) (c : Nat) (w : World) (hv : Rd w (.slice (some ⟨k, 0, none⟩) g.length m) g) (hf : Fit g c) (hS : Word S 7) : Calls Tryz.prog 55 #[.agg #[.slice (some ⟨k, 0, none⟩) g.length m, .int .i64 c], .string S] w fun e w' => e = .returned (strV (bareR 7 g c)) ∧ Ext w w' := by
  have t7 : (S.toList == [115, 104, 111, 119]) = true := hS 7 (by omega) (by omega)
  have hl := hf.gr.le
  have hc := hf.c_le
  have HC := Lib.hid (l7Said_c (.slice (some ⟨k, 0, none⟩) g.length m) (natsOf g) true (w.alloc (.cells #[.slice (some ⟨k, 0, none⟩) g.length m, .int .i64 c] 58)) (by
    show Rd _ _ (ofN (natsOf g))
    rw [ofN_nats hf.gr]; exact hv.ext ((Ext.refl _).alloc _)) (fun n hn => Nat.le_trans (natsOf_le hf.gr n hn) (by omega)) (by rw [natsOf_length]; omega))
  clear hS hv hf hl hc
  go_enter Tryz.func55, Tryz.ntmps55
  go_wp2_with fail
  refine HC.out.mono ?_
  rintro e w2 ⟨rfl, x2⟩
  have X2 := Lib.hid (((Ext.refl w).alloc _).trans x2); clear x2
  go_wp2
  go_ret
  exact ⟨rfl, X2.out⟩
set_option maxRecDepth 100000 in
set_option maxHeartbeats 8000000 in
theorem l7Bare8_c (S : ByteArray) (k m : Nat) (g : List Int) (c : Nat) (w : World) (hv : Rd w (.slice (some ⟨k, 0, none⟩) g.length m) g) (hf : Fit g c) (hS : Word S 8) : Calls Tryz.prog 55 #[.agg #[.slice (some ⟨k, 0, none⟩) g.length m, .int .i64 c], .string S] w fun e w' => e = .returned (strV (bareR 8 g c)) ∧ Ext w w' := by
  have t7 : (S.toList == [115, 104, 111, 119]) = false := hS 7 (by omega) (by omega)
  have t8 : (S.toList == [115, 101, 116]) = true := hS 8 (by omega) (by omega)
  have hl := hf.gr.le
  have hc := hf.c_le
  have hC := said1_c (.slice (some ⟨(w.alloc (.cells #[.slice (some ⟨k, 0, none⟩) g.length m, .int .i64 c] 58)).heap.size, 0, none⟩) 1 1) c true ((w.alloc (.cells #[.slice (some ⟨k, 0, none⟩) g.length m, .int .i64 c] 58)).alloc (.cells #[.int .i64 c] 3)) (rd_one (w.alloc (.cells #[.slice (some ⟨k, 0, none⟩) g.length m, .int .i64 c] 58)) c) (by omega) (by omega)
  rw [World.size_alloc, show Lib.itoa (c : Int) = Lib.decDigits c from by unfold Lib.itoa; rw [if_neg (by omega), Int.toNat_natCast]] at hC
  have HC := Lib.hid hC
  clear hC
  clear hS hv hf hl hc
  go_enter Tryz.func55, Tryz.ntmps55
  go_wp2_with fail
  refine HC.out.mono ?_
  rintro e w2 ⟨rfl, x2⟩
  have X2 := Lib.hid ((((Ext.refl w).alloc _).alloc _).trans x2); clear x2
  go_wp2
  go_ret
  exact ⟨rfl, X2.out⟩
set_option maxRecDepth 100000 in
set_option maxHeartbeats 8000000 in
theorem l7Bare9_c (S : ByteArray) (k m : Nat) (g : List Int) (c : Nat) (w : World) (hv : Rd w (.slice (some ⟨k, 0, none⟩) g.length m) g) (hf : Fit g c) (hS : Word S 9) : Calls Tryz.prog 55 #[.agg #[.slice (some ⟨k, 0, none⟩) g.length m, .int .i64 c], .string S] w fun e w' => e = .returned (strV (bareR 9 g c)) ∧ Ext w w' := by
  have t7 : (S.toList == [115, 104, 111, 119]) = false := hS 7 (by omega) (by omega)
  have t8 : (S.toList == [115, 101, 116]) = false := hS 8 (by omega) (by omega)
  have t9 : (S.toList == [109, 97, 114, 107, 115]) = true := hS 9 (by omega) (by omega)
  have hl := hf.gr.le
  have hc := hf.c_le
  have HM := Lib.hid (l2Marks_c (.slice (some ⟨k, 0, none⟩) g.length m) g c (w.alloc (.cells #[.slice (some ⟨k, 0, none⟩) g.length m, .int .i64 c] 58)) (hv.ext ((Ext.refl _).alloc _)) hf.gr hc)
  have hmk : marksTo g c g.length = intsOf ((List.range g.length).map (markN g c)) := by unfold marksTo intsOf; rw [List.map_map]; rfl
  rw [hmk] at HM
  have h9 : ∀ z ∈ (List.range g.length).map (markN g c), z ≤ 1048576 := fun z hz => by
    obtain ⟨i, -, rfl⟩ := List.mem_map.1 hz
    exact Nat.le_trans (markN_le hc g i) (by omega)
  have HC := Lib.hid (fun (v : Value) (w' : World) (h : Rd w' v (intsOf ((List.range g.length).map (markN g c)))) => l7Said_c v _ true w' h h9 (by rw [List.length_map, List.length_range]; omega))
  clear hmk h9
  clear hS hv hf hl hc
  go_enter Tryz.func55, Tryz.ntmps55
  go_wp2_with fail
  refine HM.out.mono ?_
  rintro e w2 ⟨v2, rfl, o2, x2⟩
  have X2 := Lib.hid (((Ext.refl w).alloc _).trans x2); have O2 := Lib.hid o2; clear x2 o2
  go_wp2_with fail
  refine (HC.out _ _ O2.out.rd).mono ?_
  rintro e w3 ⟨rfl, x3⟩
  have X3 := Lib.hid (X2.out.trans x3); clear x3
  go_wp2
  go_ret
  exact ⟨rfl, X3.out⟩
set_option maxRecDepth 100000 in
set_option maxHeartbeats 8000000 in
theorem l7Bare11_c (S : ByteArray) (k m : Nat) (g : List Int) (c : Nat) (w : World) (hv : Rd w (.slice (some ⟨k, 0, none⟩) g.length m) g) (hf : Fit g c) (hS : Word S 11) : Calls Tryz.prog 55 #[.agg #[.slice (some ⟨k, 0, none⟩) g.length m, .int .i64 c], .string S] w fun e w' => e = .returned (strV (bareR 11 g c)) ∧ Ext w w' := by
  have t7 : (S.toList == [115, 104, 111, 119]) = false := hS 7 (by omega) (by omega)
  have t8 : (S.toList == [115, 101, 116]) = false := hS 8 (by omega) (by omega)
  have t9 : (S.toList == [109, 97, 114, 107, 115]) = false := hS 9 (by omega) (by omega)
  have t11 : (S.toList == [116, 114, 101, 101]) = true := hS 11 (by omega) (by omega)
  have hl := hf.gr.le
  have hc := hf.c_le
  obtain ⟨x, s, he, hx⟩ := treeRes_small g
  have HM := Lib.hid (treeResS_c (.slice (some ⟨k, 0, none⟩) g.length m) g (w.alloc (.cells #[.slice (some ⟨k, 0, none⟩) g.length m, .int .i64 c] 58)) (hv.ext ((Ext.refl _).alloc _)) (by omega))
  rw [he] at HM
  simp only [pairV] at HM
  have HC := Lib.hid (fun (W : World) => said1_c (.slice (some ⟨W.heap.size, 0, none⟩) 1 1) x s (W.alloc (.cells #[.int .i64 x] 3)) (rd_one W x) (by omega) (by omega))
  obtain ⟨z, hz⟩ : ∃ z : List UInt8, z = if s then Lib.itoa (x : Int) ++ [10] else [110, 111, 10] := ⟨_, rfl⟩
  rw [← hz] at HC
  have HR : Hid (z = bareR 11 g c) := by
    rw [hz]
    show _ = nl (oneR (treeRes g) g c)
    rw [he]; cases s <;> rfl
  clear hz
  clear he hx
  clear hS hv hf hl hc
  go_enter Tryz.func55, Tryz.ntmps55
  go_wp2_with fail
  refine HM.out.mono ?_
  rintro e w2 ⟨rfl, x2⟩
  have X2 := Lib.hid (((Ext.refl w).alloc _).trans x2); clear x2
  go_wp2_with fail
  refine (HC.out _).mono ?_
  rintro e w3 ⟨rfl, x3⟩
  have X3 := Lib.hid ((X2.out.alloc _).trans x3); clear x3
  go_wp2
  go_ret
  exact ⟨by rw [← HR.out]; rfl, X3.out⟩
set_option maxRecDepth 100000 in
set_option maxHeartbeats 8000000 in
theorem l7Bare12_c (S : ByteArray) (k m : Nat) (g : List Int) (c : Nat) (w : World) (hv : Rd w (.slice (some ⟨k, 0, none⟩) g.length m) g) (hf : Fit g c) (hS : Word S 12) : Calls Tryz.prog 55 #[.agg #[.slice (some ⟨k, 0, none⟩) g.length m, .int .i64 c], .string S] w fun e w' => e = .returned (strV (bareR 12 g c)) ∧ Ext w w' := by
  have t7 : (S.toList == [115, 104, 111, 119]) = false := hS 7 (by omega) (by omega)
  have t8 : (S.toList == [115, 101, 116]) = false := hS 8 (by omega) (by omega)
  have t9 : (S.toList == [109, 97, 114, 107, 115]) = false := hS 9 (by omega) (by omega)
  have t11 : (S.toList == [116, 114, 101, 101]) = false := hS 11 (by omega) (by omega)
  have t12 : (S.toList == [109, 111, 115, 116]) = true := hS 12 (by omega) (by omega)
  have hl := hf.gr.le
  have hc := hf.c_le
  obtain ⟨x, s, he, hx⟩ := most_small g c
  have HM := Lib.hid (sensorMostS_c (.slice (some ⟨k, 0, none⟩) g.length m) g c (w.alloc (.cells #[.slice (some ⟨k, 0, none⟩) g.length m, .int .i64 c] 58)) (hv.ext ((Ext.refl _).alloc _)) (by omega))
  rw [he] at HM
  simp only [pairV] at HM
  have HC := Lib.hid (fun (W : World) => said1_c (.slice (some ⟨W.heap.size, 0, none⟩) 1 1) x s (W.alloc (.cells #[.int .i64 x] 3)) (rd_one W x) (by omega) (by omega))
  obtain ⟨z, hz⟩ : ∃ z : List UInt8, z = if s then Lib.itoa (x : Int) ++ [10] else [110, 111, 10] := ⟨_, rfl⟩
  rw [← hz] at HC
  have HR : Hid (z = bareR 12 g c) := by
    rw [hz]
    show _ = nl (oneR (sensorMost g c) g c)
    rw [he]; cases s <;> rfl
  clear hz
  clear he hx
  clear hS hv hf hl hc
  go_enter Tryz.func55, Tryz.ntmps55
  go_wp2_with fail
  refine HM.out.mono ?_
  rintro e w2 ⟨rfl, x2⟩
  have X2 := Lib.hid (((Ext.refl w).alloc _).trans x2); clear x2
  go_wp2_with fail
  refine (HC.out _).mono ?_
  rintro e w3 ⟨rfl, x3⟩
  have X3 := Lib.hid ((X2.out.alloc _).trans x3); clear x3
  go_wp2
  go_ret
  exact ⟨by rw [← HR.out]; rfl, X3.out⟩
set_option maxRecDepth 100000 in
set_option maxHeartbeats 8000000 in
theorem l7Bare14_c (S : ByteArray) (k m : Nat) (g : List Int) (c : Nat) (w : World) (hv : Rd w (.slice (some ⟨k, 0, none⟩) g.length m) g) (hf : Fit g c) (hS : Word S 14) : Calls Tryz.prog 55 #[.agg #[.slice (some ⟨k, 0, none⟩) g.length m, .int .i64 c], .string S] w fun e w' => e = .returned (strV (bareR 14 g c)) ∧ Ext w w' := by
  have t7 : (S.toList == [115, 104, 111, 119]) = false := hS 7 (by omega) (by omega)
  have t8 : (S.toList == [115, 101, 116]) = false := hS 8 (by omega) (by omega)
  have t9 : (S.toList == [109, 97, 114, 107, 115]) = false := hS 9 (by omega) (by omega)
  have t11 : (S.toList == [116, 114, 101, 101]) = false := hS 11 (by omega) (by omega)
  have t12 : (S.toList == [109, 111, 115, 116]) = false := hS 12 (by omega) (by omega)
  have t14 : (S.toList == [100, 101, 112, 116, 104]) = true := hS 14 (by omega) (by omega)
  have hl := hf.gr.le
  have hc := hf.c_le
  obtain ⟨x, s, he, hx⟩ := askDepth_small g ((2 ^ g.length - 1 : Nat) : Int)
  obtain ⟨W, hW⟩ : ∃ W, W = (w.alloc (.cells #[.slice (some ⟨k, 0, none⟩) g.length m, .int .i64 c] 58)) := ⟨_, rfl⟩
  have hwx : Ext w W := by rw [hW]; exact (Ext.refl _).alloc _
  have hs0 : W.cell? ⟨w.heap.size, 0, none⟩ = some (.slice (some ⟨k, 0, none⟩) g.length m) := by rw [hW, Lib.cell_of_heap (World.alloc_heap_new w _)]; rfl
  have hsz : w.heap.size < W.heap.size := by rw [hW]; simp
  obtain ⟨p, hp, hp1, hp2, hp3⟩ := pow_var g.length (by omega)
  have e0 : min g.length 64 = g.length := by omega
  have hp4 : p ≤ 4096 := by rw [← hp]; exact pow_le_12 hl
  obtain ⟨q, hq⟩ : ∃ q, q = p - 1 := ⟨_, rfl⟩
  have e1 : (p : Int) - 1 = (q : Int) := by omega
  rw [hp, ← hq] at he
  have HM := Lib.hid (fun u => askDepthS_c (.slice (some ⟨k, 0, none⟩) g.length m) g q (clip W u) (hv.ext (hwx.trans (clip_ext W u))) (by omega))
  rw [he] at HM
  simp only [pairV] at HM
  have HC := Lib.hid (fun (W : World) => said1_c (.slice (some ⟨W.heap.size, 0, none⟩) 1 1) x s (W.alloc (.cells #[.int .i64 x] 3)) (rd_one W x) (by omega) (by omega))
  obtain ⟨z, hz⟩ : ∃ z : List UInt8, z = if s then Lib.itoa (x : Int) ++ [10] else [110, 111, 10] := ⟨_, rfl⟩
  rw [← hz] at HC
  have HR : Hid (z = bareR 14 g c) := by
    rw [hz]
    show _ = nl (oneR (askDepth g ((2 ^ g.length - 1 : Nat) : Int)) g c)
    rw [hp, ← hq, he]; cases s <;> rfl
  clear hz
  have c0 := fun u => ((clip_ext W u).cell hsz).trans hs0
  have HW := Lib.hid hW; have HX := Lib.hid hwx
  have hq4 : q ≤ 4096 := by omega
  clear he hx hW hwx hs0 hsz hp hq
  clear hS hv hf hl hc
  go_enter Tryz.func55, Tryz.ntmps55
  go_wp2
  rw [← HW.out]
  refine wp_region_ext (by kernel_rfl) (by kernel_rfl) ?_
  repeat (go_big_quiet_step (first
    | (go_at_call 115; exact Calls.clip_of (HM.out _))))
  refine wpQuiet_nil ?_
  rintro _ ⟨u', rfl⟩
  have X2 := Lib.hid (HX.out.trans (clip_ext W u'))
  go_wp2_with fail
  refine (HC.out _).mono ?_
  rintro e w3 ⟨rfl, x3⟩
  have X3 := Lib.hid ((X2.out.alloc _).trans x3); clear x3
  go_wp2
  go_ret
  exact ⟨by rw [← HR.out]; rfl, X3.out⟩
set_option maxRecDepth 100000 in
set_option maxHeartbeats 8000000 in
theorem l7BareN_c (S : ByteArray) (k m : Nat) (i : Nat) (h7 : i ≠ 7) (h8 : i ≠ 8) (h9 : i ≠ 9) (h11 : i ≠ 11) (h12 : i ≠ 12) (h14 : i ≠ 14) (hS : Word S i) (g : List Int) (c : Nat) (w : World) : Calls Tryz.prog 55 #[.agg #[.slice (some ⟨k, 0, none⟩) g.length m, .int .i64 c], .string S] w fun e w' => e = .returned (strV (bareR i g c)) ∧ Ext w w' := by
  have t7 : (S.toList == [115, 104, 111, 119]) = false := (hS 7 (by omega) (by omega)).trans (decide_eq_false h7)
  have t8 : (S.toList == [115, 101, 116]) = false := (hS 8 (by omega) (by omega)).trans (decide_eq_false h8)
  have t9 : (S.toList == [109, 97, 114, 107, 115]) = false := (hS 9 (by omega) (by omega)).trans (decide_eq_false h9)
  have t11 : (S.toList == [116, 114, 101, 101]) = false := (hS 11 (by omega) (by omega)).trans (decide_eq_false h11)
  have t12 : (S.toList == [109, 111, 115, 116]) = false := (hS 12 (by omega) (by omega)).trans (decide_eq_false h12)
  have t14 : (S.toList == [100, 101, 112, 116, 104]) = false := (hS 14 (by omega) (by omega)).trans (decide_eq_false h14)
  have HR : Hid (bareR i g c = whatS ++ [10]) := by
    show bareR i g c = _
    unfold bareR
    rw [if_neg (by omega)]
  clear hS h7 h8 h9 h11 h12 h14
  go_enter Tryz.func55, Tryz.ntmps55
  go_wp2
  go_ret
  exact ⟨by rw [HR.out]; rfl, (Ext.refl w).alloc _⟩
theorem l7Bare_c (S : ByteArray) (k m : Nat) (g : List Int) (c : Nat) (w : World) (hv : Rd w (.slice (some ⟨k, 0, none⟩) g.length m) g) (hf : Fit g c) (i : Nat) (hS : Word S i) : Calls Tryz.prog 55 #[.agg #[.slice (some ⟨k, 0, none⟩) g.length m, .int .i64 c], .string S] w fun e w' => e = .returned (strV (bareR i g c)) ∧ Ext w w' := by
  by_cases h7 : i = 7
  · subst h7; exact l7Bare7_c S k m g c w hv hf hS
  by_cases h8 : i = 8
  · subst h8; exact l7Bare8_c S k m g c w hv hf hS
  by_cases h9 : i = 9
  · subst h9; exact l7Bare9_c S k m g c w hv hf hS
  by_cases h11 : i = 11
  · subst h11; exact l7Bare11_c S k m g c w hv hf hS
  by_cases h12 : i = 12
  · subst h12; exact l7Bare12_c S k m g c w hv hf hS
  by_cases h14 : i = 14
  · subst h14; exact l7Bare14_c S k m g c w hv hf hS
  exact l7BareN_c S k m i h7 h8 h9 h11 h12 h14 hS g c w
end Go.Proofs.YtkmfmhckpfomeaaGreatDoor
