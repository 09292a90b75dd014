/- Answers of pools, what is left, how far apart two sets are: the reference and the program compute the same plain functions. The condition: the list has at most 2^20 numbers. -/
import Derived.Test.YtpmammklklkheaaPool
namespace Go.Proofs.Ytpmammklklkheaa
open Go.RowKit
open BigFrame

/-- What a function that returns a number and whether it holds returns. -/
def pairV (p : Int × Bool) : Value := .tuple #[.int .i64 p.1, .bool p.2]
theorem ret_pair {p q : Int × Bool} (h : p = q) : Ending.returned (pairV p) = .returned (pairV q) := by rw [h]
theorem ret_pair' {a : Int} {b : Bool} {q : Int × Bool} (h : (a, b) = q) : Ending.returned (.tuple #[.int .i64 a, .bool b]) = .returned (pairV q) := by rw [← h]; rfl

def poolAnswers (items : Int) (tests : List Int) (wrong : Int) : Int × Bool :=
  if poolIn items tests && setB wrong items.toNat then ((answersOf tests wrong.toNat : Nat), true) else (0, false)
def poolLeft (items : Int) (tests : List Int) (answers : Int) : Int × Bool :=
  if poolIn items tests && setB answers tests.length then ((leftOf items.toNat tests answers.toNat : Nat), true) else (0, false)
def apart (a b : Int) : Int := if setB a 12 && setB b 12 then (cnt (bxor a.toNat b.toNat) : Nat) else -1

theorem answersTo_small {tests : List Int} {wrong k : Nat} (h : k ≤ 16) : answersTo tests wrong k ≤ 65535 := by
  have := answersTo_lt tests wrong k
  have := pow_le_16 h
  omega
theorem leftTo_small {n : Nat} {tests : List Int} {answers k : Nat} (h : n ≤ 12) : leftTo n tests answers k ≤ 4095 := by
  have := leftTo_lt n tests answers k
  have := pow_le_12 h
  omega
theorem IsPool.small {n : Nat} {tests : List Int} (h : IsPool n tests) (i : Nat) : gN tests i ≤ 4095 := by
  have := h.lt i
  have := pow_le_12 h.le
  omega

set_option maxHeartbeats 400000 in
theorem sensorApartI_c (a b : Int) (w : World) :
    Calls Try.prog 37 #[.int .i64 a, .int .i64 b] w fun e w' => e = .returned (.int .i64 (apart a b)) ∧ w = w' := by
  cases ha : setB a 12
  · have HA := Lib.hid ha
    go_enter Try.func37, Try.ntmps37
    go_wp2_with (go_at_call 76; refine (isSet_c _ 12 (by omega) _).mono ?_; rintro e w' ⟨rfl, rfl⟩)
    go_ret
    exact ⟨ret_int (by unfold apart; rw [HA.out]; rfl), rfl⟩
  · cases hb : setB b 12
    · have HB := Lib.hid hb
      go_enter Try.func37, Try.ntmps37
      go_wp2_with (go_at_call 76; refine (isSet_c _ 12 (by omega) _).mono ?_; rintro e w' ⟨rfl, rfl⟩)
      go_ret
      exact ⟨ret_int (by unfold apart; rw [HB.out, Bool.and_false]; rfl), rfl⟩
    · have HA := Lib.hid ha; have HB := Lib.hid hb
      obtain ⟨x, rfl, hx⟩ := setB_iff.1 ha
      obtain ⟨y, rfl, hy⟩ := setB_iff.1 hb
      have hz := bxor_lt hx hy
      have e1 := bits_xor x y (by omega) (by omega)
      have HS := Lib.hid (pop64_small (bxor x y) (by omega))
      go_enter Try.func37, Try.ntmps37
      go_wp2_with (first | (go_at_call 76; refine (isSet_c _ 12 (by omega) _).mono ?_; rintro e w' ⟨rfl, rfl⟩) | (go_at_call 57; refine (size_c _ (by omega) _).mono ?_; rintro e w' ⟨rfl, rfl⟩))
      go_ret
      exact ⟨ret_int (by unfold apart; rw [HA.out, HB.out, HS.out]; rfl), rfl⟩

set_option maxHeartbeats 400000 in
theorem answers_c (n : Nat) (it : Int) (v : Value) (xs : List Int) (m : Nat) (w : World) (hv : Rd w v xs) (hp : IsPool n xs) (hm : m ≤ 4095) :
    Calls Try.prog 85 #[.agg #[.int .i64 it, v], .int .i64 m] w fun e w' => e = .returned (.int .i64 (answersOf xs m : Nat)) ∧ Ext w w' := by
  obtain ⟨a, c, rfl⟩ := hv.form
  have HV := Lib.hid hv; clear hv
  have HP := Lib.hid hp
  have hl := hp.len
  clear hp
  go_enter Try.func85, Try.ntmps85
  go_wp2
  go_loop [5, 11] (fun o i => ∃ k : Nat, k ≤ xs.length ∧ i = .int .i64 k ∧ o = .int .i64 (answersTo xs m k : Nat)) (fun _ i => xs.length - (intOf i).toNat)
  case atStart => exact ⟨0, Nat.zero_le _, rfl, rfl⟩
  case round =>
    obtain ⟨k, hk, rfl, rfl⟩ := hrel
    have h1 : answersTo xs m k ≤ 65535 := answersTo_small (by omega)
    have H2 : Hid (answersTo xs m (k + 1) = if band (gN xs k) m ≠ 0 then bor (answersTo xs m k) (2 ^ k) else answersTo xs m k) := rfl
    generalize hq : answersTo xs m k = q at *
    have H3 := Lib.hid hq; clear hq
    by_cases hlt : k < xs.length
    · obtain ⟨b, o, rfl, -, -, hc⟩ := HV.out.atI hlt
      have c1 := hc _ ((Ext.refl w).alloc (Obj.cells #[Value.int IntKind.i64 it, Value.slice (some ⟨b, o, none⟩) xs.length c] 67))
      clear hc
      have r1 := HP.out.row k hlt
      have r2 := HP.out.small k
      rw [r1] at c1
      clear r1
      have e1 := bits_and (gN xs k) m (by omega) (by omega)
      obtain ⟨p, hp, hp1, hp2, hp3⟩ := pow_var k (by omega)
      have e0 : min k 64 = k := by omega
      have e2 := bits_or q p (by omega) (by omega)
      have H4 := Lib.hid hp; clear hp
      by_cases hz : band (gN xs k) m = 0
      · have HZ := Lib.hid hz
        go_wp2
        go_round
        case rel => exact ⟨k + 1, by omega, by go_num, by rw [H2.out, if_neg (by simpa using HZ.out)]⟩
        case measure => simp [intOf]; omega
      · have HZ := Lib.hid hz
        have hz' : ((band (gN xs k) m : Nat) : Int) ≠ 0 := by omega
        go_wp2
        go_round
        case rel => exact ⟨k + 1, by omega, by go_num, by rw [H2.out, if_pos (by simpa using HZ.out), H4.out]⟩
        case measure => simp [intOf]; omega
    · go_wp2
      go_ret
      obtain rfl : k = xs.length := by omega
      exact ⟨by rw [← H3.out]; rfl, (Ext.refl w).alloc _⟩

end Go.Proofs.Ytpmammklklkheaa
