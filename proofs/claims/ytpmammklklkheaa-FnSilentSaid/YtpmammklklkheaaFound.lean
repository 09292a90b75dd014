/- What questions and answers leave: the reference and the program compute the same plain function. The condition: both lists have at most 2^20 numbers. -/
import Derived.Test.YtpmammklklkheaaAns
import Derived.Test.YtpmammklklkheaaAsker
namespace Go.Proofs.Ytpmammklklkheaa
open Go.RowKit
open BigFrame

def byteAt (s : ByteArray) (k : Nat) : Nat := if h : k < s.size then (s[k]'h).toNat else 0
/-- What is left behind one question. -/
def foundNext (g : List Int) (s : Nat) (x : Int) (c : Nat) : Option Nat :=
  if inB 0 x ((g.length : Int) - 1) then if c = 121 then some (qIn g s x.toNat) else if c = 110 then some (without s (qIn g s x.toNat)) else none else none
def foundTo (g asked : List Int) (said : ByteArray) : Nat → Option Nat
  | 0 => some (2 ^ g.length - 1)
  | k + 1 => (foundTo g asked said k).bind fun s => foundNext g s (getI asked k) (byteAt said k)
theorem foundTo_none {g asked : List Int} {said : ByteArray} {k : Nat} (h : foundTo g asked said k = none) : ∀ d, foundTo g asked said (k + d) = none
  | 0 => h
  | d + 1 => by
    have := foundTo_none h d
    show (foundTo g asked said (k + d)).bind _ = none
    rw [this]; rfl
def pairOf : Option Nat → Int × Bool
  | some s => ((s : Nat), true)
  | none => (0, false)
def askFound (g asked : List Int) (said : ByteArray) : Int × Bool :=
  if graphIn g && decide (asked.length = said.size) && decide (asked.length ≤ 20) then pairOf (foundTo g asked said asked.length) else (0, false)
theorem foundNext_le {g : List Int} {s t : Nat} {x : Int} {c : Nat} (hs : s ≤ 4095) (h : foundNext g s x c = some t) : t ≤ 4095 := by
  unfold foundNext at h
  split at h
  · split at h
    · cases h; exact Nat.le_trans (qIn_le _ _ _) hs
    · split at h
      · cases h; exact without_le _ _ hs
      · cases h
  · cases h
theorem found_stop {g asked : List Int} {said : ByteArray} {k s : Nat} (hk : k < asked.length) (h : foundTo g asked said k = some s) (h' : foundNext g s (getI asked k) (byteAt said k) = none) :
    pairOf (foundTo g asked said asked.length) = (0, false) := by
  have e : foundTo g asked said (k + 1) = none := by show (foundTo g asked said k).bind _ = none; rw [h]; exact h'
  have := foundTo_none e (asked.length - (k + 1))
  rw [show k + 1 + (asked.length - (k + 1)) = asked.length from by omega] at this
  rw [this]; rfl
theorem found_go {g asked : List Int} {said : ByteArray} {k s t : Nat} (h : foundTo g asked said k = some s) (h' : foundNext g s (getI asked k) (byteAt said k) = some t) : foundTo g asked said (k + 1) = some t := by
  show (foundTo g asked said k).bind _ = some t
  rw [h]; exact h'

theorem all_c (v : Value) (g : List Int) (w : World) (hv : Rd w v g) (hg : g.length ≤ 12) :
    Calls Try.prog 96 #[v] w fun e w' => e = .returned (.int .i64 ((2 ^ g.length - 1 : Nat) : Int)) ∧ w = w' := by
  obtain ⟨a, c, rfl⟩ := hv.form
  clear hv
  obtain ⟨p, hp, hp1, hp2, hp3⟩ := pow_var g.length (by omega)
  have e0 : min g.length 64 = g.length := by omega
  rw [hp]
  clear hp
  go_enter Try.func96, Try.ntmps96
  go_wp2
  go_ret
  exact ⟨ret_int (by omega), rfl⟩

end Go.Proofs.Ytpmammklklkheaa
