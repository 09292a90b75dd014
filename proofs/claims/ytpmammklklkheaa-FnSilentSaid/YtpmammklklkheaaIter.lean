/- The two iterators of the program: the nodes of a set, ascending; the sets of at most so many items, ascending. The bounds are those that each names. -/
import Derived.Test.YtpmammklklkheaaA1
import Derived.Test.YtpmammklklkheaaRange
namespace Go.Proofs.Ytpmammklklkheaa
open Go.RowKit
open BigFrame
attribute [local go_sem] Oper.semAt_some

theorem nodes_c (s : Nat) (w : World) :
    Calls Try.prog 79 #[.int .i64 s] w fun e w' => e = .returned (.func (.func 111) #[] #[.pointer (some ⟨w.heap.size, 0, none⟩)]) ∧ w' = w.alloc (.cells #[.int .i64 s] 3) := by
  go_enter Try.func79, Try.ntmps79
  go_wp2
  go_ret
  exact ⟨rfl, rfl⟩
theorem nodes_enters : ∀ args w, (callFunc 111 args).run Try.prog w = .ok (.enter 111 args) w :=
  Go.Proofs.enters_of Try.func111 (by kernel_rfl) rfl

theorem skip_to {p : Nat → Bool} {N : Nat} {J : Nat → World → Prop} (h : ∀ k W, k < N → p k = false → J k W → J (k + 1) W) {W : World} : ∀ d k, k + d = N → (∀ j, k ≤ j → p j = false) → J k W → J N W
  | 0, k, hk, _, hj => by rwa [show k = N from by omega] at hj
  | d + 1, k, hk, hp, hj => skip_to h d (k + 1) (by omega) (fun j hj => hp j (by omega)) (h k W (by omega) (hp k (Nat.le_refl _)) hj)

set_option maxRecDepth 100000 in
set_option maxHeartbeats 1000000 in
theorem nodes_iter (B s N : Nat) (hs : s < 2 ^ N) (hN : N ≤ 62) :
    Iter Try.prog 111 #[.pointer (some ⟨B, 0, none⟩)] (fun k => s.testBit k) N (fun W => W.cell? ⟨B, 0, none⟩ = some (.int .i64 s)) := by
  intro l J Jx W hJ hKi hY hskip h0
  have hs62 : s < 2 ^ 62 := Nat.lt_of_lt_of_le hs (Nat.pow_le_pow_right (by omega) hN)
  have HK := Lib.hid hKi; clear hKi
  have HY := Lib.hid hY; clear hY
  have HS := Lib.hid hskip; clear hskip hJ
  refine callsIn_of_wp Try.func111 rfl trivial ?_ rfl
  simp only [Try.ntmps111, List.size_toArray, List.length_cons, List.length_nil, Nat.reduceAdd, Nat.reduceSub, Array.replicate_succ, Array.replicate_zero, List.push_toArray, List.append_toArray, List.nil_append, List.cons_append]
  gi_wp2
  gi_loopw [3] (fun i wr => ∃ k : Nat, k ≤ N ∧ i = .int .i64 k ∧ J k wr) (fun i _ => N - (intOf i).toNat)
  case atStart => exact ⟨0, Nat.zero_le _, rfl, h0⟩
  case round =>
    clear h0
    obtain ⟨k, hk, rfl, hj⟩ := hrel
    have HJ := Lib.hid hj; clear hj
    have hc : wr.cell? ⟨B, 0, none⟩ = some (.int .i64 s) := HK.out k wr HJ.out
    have e0 : min k 64 = k := by omega
    have e1 := div_pow_nat s k
    by_cases hz : 0 < shr s k
    · have hkN : k < N := by
        rcases Nat.lt_or_ge k N with h | h
        · exact h
        · exfalso
          have : shr s k = 0 := by
            unfold shr
            rw [Nat.shiftRight_eq_div_pow]
            exact Nat.div_eq_of_lt (Nat.lt_of_lt_of_le hs (Nat.pow_le_pow_right (by omega) h))
          omega
      cases hb : s.testBit k
      · have HB := hb
        gi_wp2_with (gi_at_call 110; refine (callsFW (ro := none) (has_c s k hs62 (by omega) _)).mono ?_; rintro e w' ⟨rfl, rfl⟩)
        go_roundw
        case rel => exact ⟨k + 1, by omega, by go_num, HS.out k _ hkN HB HJ.out⟩
        case measure => simp [intOf]; omega
      · obtain ⟨fn, tmps, assign, body, hy, hR⟩ := HY.out k wr hkN hb HJ.out
        have HR := Lib.hid hR; clear hR
        gi_wp2_with (gi_at_call 110; refine (callsFW (ro := none) (has_c s k hs62 (by omega) _)).mono ?_; rintro e w' ⟨rfl, rfl⟩)
        refine HR.out.mono ?_
        rintro e W3 (⟨rfl, hJ3⟩ | ⟨rfl, hJx3⟩)
        · have HJ3 := Lib.hid hJ3; clear hJ3
          gi_wp2
          go_roundw
          case rel => exact ⟨k + 1, by omega, by go_num, HJ3.out⟩
          case measure => simp [intOf]; omega
        · have HJ3 := Lib.hid hJx3; clear hJx3
          gi_wp2
          refine bodyPost_ret (results_none rfl _ _ _) rfl ?_
          exact ⟨⟨_, rfl⟩, .inr HJ3.out⟩
    · have hz' : shr s k = 0 := by omega
      have HZ := Lib.hid hz'; clear hz'
      gi_wp2
      go_end0
      refine ⟨⟨_, rfl⟩, .inl (skip_to HS.out (N - k) k (by omega) (fun j hj => ?_) HJ.out)⟩
      have h1 : s < 2 ^ k := by
        have := HZ.out
        unfold shr at this
        rw [Nat.shiftRight_eq_div_pow] at this
        exact (Nat.div_eq_zero_iff_lt (Nat.two_pow_pos k)).1 this
      exact Nat.testBit_lt_two_pow (Nat.lt_of_lt_of_le h1 (Nat.pow_le_pow_right (by omega) hj))

/-! ### The sets of at most d of the items -/
theorem few_c (items d : Int) (a : Option Addr) (n c : Nat) (w : World) :
    Calls Try.prog 84 #[.agg #[.int .i64 items, .slice a n c], .int .i64 d] w fun e w' =>
      e = .returned (.func (.func 114) #[] #[.pointer (some ⟨w.heap.size, 0, none⟩), .pointer (some ⟨w.heap.size + 1, 0, none⟩)]) ∧ w' = (w.alloc (.cells #[.int .i64 items, .slice a n c] 67)).alloc (.cells #[.int .i64 d] 3) := by
  go_enter Try.func84, Try.ntmps84
  go_wp2
  go_ret
  exact ⟨rfl, rfl⟩
theorem few_enters : ∀ args w, (callFunc 114 args).run Try.prog w = .ok (.enter 114 args) w :=
  Go.Proofs.enters_of Try.func114 (by kernel_rfl) rfl
def fewB (d k : Nat) : Bool := decide (cnt k ≤ d)

set_option maxRecDepth 100000 in
set_option maxHeartbeats 1000000 in
theorem few_iter (Bp Bd items d : Nat) (hN : items ≤ 12) :
    Iter Try.prog 114 #[.pointer (some ⟨Bp, 0, none⟩), .pointer (some ⟨Bd, 0, none⟩)] (fewB d) (2 ^ items)
      (fun W => W.cell? ⟨Bp, 0, none⟩ = some (.int .i64 items) ∧ W.cell? ⟨Bd, 0, none⟩ = some (.int .i64 d) ∧ Bp < W.heap.size ∧ Bd < W.heap.size) := by
  intro l J Jx W hJ hKi hY hskip h0
  obtain ⟨N, hN1, hN2, hN3, hN4⟩ : ∃ N : Nat, 2 ^ items = N ∧ (2 : Int) ^ items = (N : Int) ∧ 1 ≤ N ∧ N ≤ 4096 := ⟨_, rfl, pow_cast _, Nat.one_le_two_pow, pow_le_12 hN⟩
  rw [hN1] at hY hskip ⊢
  have HN := Lib.hid hN1; clear hN1
  have HK := Lib.hid hKi; clear hKi
  have HY := Lib.hid hY; clear hY
  have HS := Lib.hid hskip; clear hskip
  have HE := Lib.hid hJ; clear hJ
  obtain ⟨c0, -⟩ := HK.out 0 W h0
  have e0 : min items 64 = items := by omega
  refine callsIn_of_wp Try.func114 rfl trivial ?_ rfl
  simp only [Try.ntmps114, List.size_toArray, List.length_cons, List.length_nil, Nat.reduceAdd, Nat.reduceSub, Array.replicate_succ, Array.replicate_zero, List.push_toArray, List.append_toArray, List.nil_append, List.cons_append]
  gi_wp2
  clear c0
  gi_loopw [8] (fun i wr => ∃ k : Nat, k ≤ N ∧ i = .int .i64 k ∧ J k wr) (fun i _ => N - (intOf i).toNat)
  case atStart => exact ⟨0, Nat.zero_le _, rfl, h0⟩
  case round =>
    clear h0
    obtain ⟨k, hk, rfl, hj⟩ := hrel
    have HJ := Lib.hid hj; clear hj
    obtain ⟨-, c1, -, hlt1⟩ := HK.out k wr HJ.out
    have c2 : ∀ u, (clip wr u).cell? ⟨Bd, 0, none⟩ = some (.int .i64 d) := fun u => (clip_cell wr u hlt1).trans c1
    clear c1
    by_cases hz : k < N
    · have hpop := Lib.hid (pop64_small k (by omega))
      have hle := pop64_le k
      cases hb : fewB d k
      · have HB : Hid (fewB d k = false) := hb
        have hb' : decide (pop64 k ≤ d) = false := by rw [hpop.out]; exact hb
        clear hb
        gi_wp2
        refine wpIn_quiet_tail (ro := none) (C := fun w' => ∃ u, w' = clip wr u) 7 (by kernel_rfl) (by kernel_rfl) (by kernel_rfl) ⟨_, (clip_of (Ext.refl wr).drew).symm⟩ ?_
        simp only [List.take_succ_cons, List.take_zero, List.drop_succ_cons, List.drop_zero]
        repeat (go_big_quiet_step ((go_at_call 57; exact Calls.clip_same (size_c k (by omega) _))))
        refine wpQuiet_nil ?_
        rintro _ ⟨u, rfl⟩
        gi_wp2
        go_roundw
        case rel => exact ⟨k + 1, by omega, by go_num, HE.out _ _ _ (clip_ext wr u) (HS.out k _ hz HB.out HJ.out)⟩
        case measure => simp [intOf]; omega
      · have HB : Hid (fewB d k = true) := hb
        have hb' : decide (pop64 k ≤ d) = true := by rw [hpop.out]; exact hb
        clear hb
        gi_wp2
        refine wpIn_quiet_tail (ro := none) (C := fun w' => ∃ u, w' = clip wr u) 7 (by kernel_rfl) (by kernel_rfl) (by kernel_rfl) ⟨_, (clip_of (Ext.refl wr).drew).symm⟩ ?_
        simp only [List.take_succ_cons, List.take_zero, List.drop_succ_cons, List.drop_zero]
        repeat (go_big_quiet_step ((go_at_call 57; exact Calls.clip_same (size_c k (by omega) _))))
        refine wpQuiet_nil ?_
        rintro _ ⟨u, rfl⟩
        obtain ⟨fn, tmps, assign, body, hy, hR⟩ := HY.out k _ hz HB.out (HE.out _ _ _ (clip_ext wr u) HJ.out)
        have HR := Lib.hid hR; clear hR
        gi_wp2
        refine HR.out.mono ?_
        rintro e W3 (⟨rfl, hJ3⟩ | ⟨rfl, hJx3⟩)
        · have HJ3 := Lib.hid hJ3; clear hJ3
          gi_wp2
          go_roundw
          case rel => exact ⟨k + 1, by omega, by go_num, HJ3.out⟩
          case measure => simp [intOf]; omega
        · have HJ3 := Lib.hid hJx3; clear hJx3
          gi_wp2
          refine bodyPost_ret (results_none rfl _ _ _) rfl ?_
          exact ⟨⟨_, rfl⟩, .inr HJ3.out⟩
    · obtain rfl : k = N := by omega
      gi_wp2
      go_end0
      exact ⟨⟨_, rfl⟩, .inl HJ.out⟩
end Go.Proofs.Ytpmammklklkheaa
