/- The pool of the balls of a set: the reference and the program compute the same plain list. The condition: the list has at most 2^20 numbers. -/
import Derived.Test.YtbmbgkcnanmbkaaBalls
import Derived.Test.YtbmbgkcnanmbkaaDigits
import Derived.Test.YtbmbgkcnanmbkaaVar
namespace Go.Proofs.Ytbmbgkcnanmbkaa
open Go.RowKit
open BigFrame

def pickTo (g : List Int) (s k : Nat) : List Int := ((List.range k).filter fun i => s.testBit i).map fun i => ((ballN g i : Nat) : Int)
theorem pickTo_skip {g : List Int} {s k : Nat} (h : s.testBit k = false) : pickTo g s (k + 1) = pickTo g s k := by simp [pickTo, List.range_succ, h]
theorem pickTo_next {g : List Int} {s k : Nat} (h : s.testBit k = true) : pickTo g s (k + 1) = pickTo g s k ++ [((ballN g k : Nat) : Int)] := by simp [pickTo, List.range_succ, h]
theorem pickTo_length (g : List Int) (s k : Nat) : (pickTo g s k).length ≤ k := by
  unfold pickTo
  rw [List.length_map]
  exact Nat.le_trans (List.length_filter_le _ _) (by simp)
def poolBalls (g : List Int) (code : Int) : List Int × Bool := if fits g code then (pickTo g code.toNat g.length, true) else ([], false)

set_option maxRecDepth 100000 in
set_option maxHeartbeats 1000000 in
theorem poolBallsS_c (v : Value) (g : List Int) (code : Int) (w : World) (hv : Rd w v g) (hm : g.length ≤ 1048576) :
    Calls Try.prog 42 #[v, .int .i64 code] w fun e w' => ∃ v, e = .returned (listV v (poolBalls g code).2) ∧ Own w' w.heap.size v (poolBalls g code).1 ∧ Ext w w' := by
  obtain ⟨a, c, rfl⟩ := hv.form
  obtain ⟨W, hW⟩ : ∃ W, W = w.alloc (.cells #[] 3) := ⟨_, rfl⟩
  have ho0 : Own W w.heap.size (.slice (some ⟨w.heap.size, 0, none⟩) 0 0) [] := by rw [hW]; exact Own.lit w
  have hx0 : Ext w W := by rw [hW]; exact (Ext.refl _).alloc _
  have hs0 : w.heap.size < W.heap.size := by rw [hW]; simp
  have HW := Lib.hid hW; have HO0 := Lib.hid ho0; have HX0 := Lib.hid hx0; have HV := Lib.hid (hv.ext hx0)
  have HM := Lib.hid hm
  clear hv hW ho0 hx0
  cases h0 : graphIn g
  · rw [show poolBalls g code = ([], false) from by unfold poolBalls fits; rw [h0]; rfl]
    go_enter Try.func42, Try.ntmps42
    go_wp2_with fail
    rw [← HW.out]
    refine (graphInS_c _ _ _ HV.out HM.out).mono ?_
    rintro e w1 ⟨rfl, x1⟩
    have X1 := Lib.hid x1; clear x1
    go_wp2
    go_ret2
    exact ⟨_, rfl, HO0.out.ext X1.out, HX0.out.trans X1.out⟩
  · have hG := graphIn_iff.1 h0
    have hl := hG.le
    have HG := Lib.hid hG; clear hG
    cases hs : setB code g.length
    · rw [show poolBalls g code = ([], false) from by unfold poolBalls fits; rw [h0, hs]; rfl]
      go_enter Try.func42, Try.ntmps42
      go_wp2_with fail
      rw [← HW.out]
      refine (graphInS_c _ _ _ HV.out HM.out).mono ?_
      rintro e w1 ⟨rfl, x1⟩
      have X1 := Lib.hid x1; clear x1
      go_wp2_with (go_at_call 82; refine (l2Set_c _ g _ _ (HV.out.ext X1.out) (by omega)).mono ?_; rintro e w' ⟨rfl, rfl⟩)
      go_ret2
      exact ⟨_, rfl, HO0.out.ext X1.out, HX0.out.trans X1.out⟩
    · obtain ⟨s, rfl, hsl⟩ := setB_iff.1 hs
      have hs4 : s ≤ 4095 := by have := pow_le_12 hl; omega
      rw [show poolBalls g s = (pickTo g s g.length, true) from by unfold poolBalls fits; rw [h0, hs]; rfl]
      clear hsl
      go_enter Try.func42, Try.ntmps42
      go_wp2_with fail
      rw [← HW.out]
      refine (graphInS_c _ _ _ HV.out HM.out).mono ?_
      rintro e w1 ⟨rfl, x1⟩
      have X1 := Lib.hid x1; clear x1
      go_wp2_with (go_at_call 82; refine (l2Set_c _ g _ _ (HV.out.ext X1.out) (by omega)).mono ?_; rintro e w' ⟨rfl, rfl⟩)
      refine (l1Balls_c _ g _ (HV.out.ext X1.out) HG.out).mono ?_
      rintro e w2 ⟨vb, rfl, ob, x2⟩
      have hlt2 : w1.heap.size ≤ w2.heap.size := x2.size
      have hlt1 : W.heap.size ≤ w1.heap.size := X1.out.size
      have X2 := Lib.hid (X1.out.trans x2); clear x2
      rcases ob.get with ⟨rfl, hnil⟩ | ⟨gb, cb, rfl, hgb1, hgb2, hcb, hcells, -⟩
      · have h1 := congrArg List.length hnil
        rw [ballsTo_length, List.length_nil] at h1
        have h2 := HG.out.pos
        omega
      · rw [ballsTo_length] at hcb
        have HC : Hid (∀ i, i < g.length → w2.cell? ⟨gb, i, none⟩ = some (.int .i64 (ballN g i : Nat))) := fun i hi => by
          rw [hcells i (by rw [ballsTo_length]; exact hi), ballsTo_get _ _ _ hi]
        clear hcells ob
        rw [ballsTo_length]
        go_wp2
        go_loopw [6, 8] (fun o i wr => ∃ k : Nat, k ≤ g.length ∧ i = .int .i64 k ∧ Own wr w.heap.size o (pickTo g s k) ∧ Ext w wr ∧ Hid (∀ i, i < g.length → wr.cell? ⟨gb, i, none⟩ = some (.int .i64 (ballN g i : Nat))) ∧ Hid (o.ownBlock ≠ some gb) ∧ gb < wr.heap.size) (fun _ i _ => g.length - (intOf i).toNat)
        case atStart => exact ⟨0, Nat.zero_le _, rfl, HO0.out.ext X2.out, HX0.out.trans X2.out, HC, fun e => by simp [Value.ownBlock] at e; omega, hgb2⟩
        case round =>
          obtain ⟨k, hk, rfl, ho, hx, HC, HN, hgl⟩ := hrel
          have HO := Lib.hid ho; have HX := Lib.hid hx; clear ho hx
          by_cases hlt : k < g.length
          · have c1 := HC.out k hlt
            cases hb : s.testBit k
            · have HB := Lib.hid hb
              go_wp2_with (go_at_call 78; refine (l1Bit_c s k (by omega) (by omega) _).mono ?_; rintro e w' ⟨rfl, rfl⟩)
              go_roundw
              case rel => exact ⟨k + 1, by omega, by go_num, by rw [pickTo_skip HB.out]; exact HO.out, HX.out, HC, HN, hgl⟩
              case measure => simp [intOf]; omega
            · have HB := Lib.hid hb
              have HL := Lib.hid (pickTo_length g s k)
              go_wp2_with (first | (go_at_call 78; refine (l1Bit_c s k (by omega) (by omega) _).mono ?_; rintro e w' ⟨rfl, rfl⟩) | (at_builtin; refine wpList_append_int2 rfl _ _ rfl w.heap.size _ _ rfl (HO.out.alloc _) wr.heap.size _ rfl (one_cell _ _ _) (by have := HL.out; omega) (by simp; have := HX.out.size; omega) ?_; intro v' w3 ho3 hg3 hn3))
              have HX3 : Hid (Ext w w3) := (HO.out.alloc _).grew (HX.out.alloc _) hg3 (Nat.le_refl _)
              have HO3 : Hid (Own w3 w.heap.size v' (pickTo g s (k + 1))) := by rw [pickTo_next HB.out]; exact ho3
              have HC3 : Hid (∀ i, i < g.length → w3.cell? ⟨gb, i, none⟩ = some (.int .i64 (ballN g i : Nat))) := fun i hi => by
                rw [← HC.out i hi]
                unfold World.cell?
                rw [hg3.block gb (by simp; omega) (fun e => HN.out e.symm), Below.heap_alloc _ _ _ hgl]
              have HN3 : Hid (v'.ownBlock ≠ some gb) := fun e => by
                rcases hn3 gb e with h | h
                · exact HN.out h
                · simp at h; omega
              have hgl3 : gb < w3.heap.size := Nat.lt_of_lt_of_le (by simp; omega) hg3.size
              clear ho3 hg3 hn3
              go_wp2
              go_roundw
              case rel => exact ⟨k + 1, by omega, by go_num, HO3.out, HX3.out, HC3, HN3, hgl3⟩
              case measure => simp [intOf]; omega
          · obtain rfl : k = g.length := by omega
            go_wp2
            go_ret2
            exact ⟨_, rfl, HO.out, HX.out⟩
end Go.Proofs.Ytbmbgkcnanmbkaa
