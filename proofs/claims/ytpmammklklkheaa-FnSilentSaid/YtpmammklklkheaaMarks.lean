/- The marks of all nodes: the reference and the program compute the same plain list. No condition. -/
import Derived.Test.YtpmammklklkheaaBook
namespace Go.Proofs.Ytpmammklklkheaa
open Go.RowKit
open BigFrame

def markN (g : List Int) (s i : Nat) : Nat := band (ballN g i) s
def marksTo (g : List Int) (s k : Nat) : List Int := (List.range k).map fun i => ((markN g s i : Nat) : Int)
theorem marksTo_succ (g : List Int) (s k : Nat) : marksTo g s (k + 1) = marksTo g s k ++ [((markN g s k : Nat) : Int)] := by simp [marksTo, List.range_succ]
theorem marksTo_length (g : List Int) (s k : Nat) : (marksTo g s k).length = k := by simp [marksTo]
theorem marksTo_get (g : List Int) (s k i : Nat) (h : i < k) : (marksTo g s k).getD i 0 = ((markN g s i : Nat) : Int) := by simp [marksTo, h]
theorem markN_small {g : List Int} (hg : IsGraph g) {i : Nat} (hi : i < g.length) (s : Nat) : markN g s i ≤ 4095 := Nat.le_trans Nat.and_le_left (ballN_small hg hi)

set_option maxHeartbeats 1000000 in
theorem l2Marks_c (v : Value) (g : List Int) (s : Nat) (w : World) (hv : Rd w v g) (hg : IsGraph g) (hs : s ≤ 4095) :
    Calls Try.prog 73 #[v, .int .i64 s] w fun e w' => ∃ v', e = .returned v' ∧ Own w' w.heap.size v' (marksTo g s g.length) ∧ Ext w w' := by
  obtain ⟨a, c, rfl⟩ := hv.form
  obtain ⟨W, hW⟩ : ∃ W, W = w.alloc (.cells #[] 3) := ⟨_, rfl⟩
  have ho0 : Own W w.heap.size (.slice (some ⟨w.heap.size, 0, none⟩) 0 0) [] := by rw [hW]; exact Own.lit w
  have hx0 : Ext w W := by rw [hW]; exact (Ext.refl _).alloc _
  have hs0 : w.heap.size < W.heap.size := by rw [hW]; simp
  have HW := Lib.hid hW; have HO0 := Lib.hid ho0; have HX0 := Lib.hid hx0; have HV := Lib.hid (hv.ext hx0)
  have HG := Lib.hid hg
  have hl := hg.le
  clear hv hW ho0 hx0 hg
  go_enter Try.func73, Try.ntmps73
  go_wp2_with fail
  rw [← HW.out]
  refine (l1Balls_c _ g _ HV.out HG.out).mono ?_
  rintro e w2 ⟨vb, rfl, ob, x2⟩
  have X2 := Lib.hid x2; clear x2
  rcases ob.get with ⟨rfl, hnil⟩ | ⟨gb, cb, rfl, hgb1, hgb2, hcb, hcells, -⟩
  · have h1 := congrArg List.length hnil
    rw [ballsTo_length, List.length_nil] at h1
    have h2 := HG.out.pos
    omega
  · rw [ballsTo_length] at hcb
    have HC : Hid (∀ i, i < g.length → w2.cell? ⟨gb, i, none⟩ = some (.int .i64 (ballN g i : Nat))) := fun i hi => by
      rw [hcells i (by rw [ballsTo_length]; exact hi), ballsTo_get _ _ _ hi]
    clear hcells ob
    rw [ballsTo_length]
    go_wp2
    go_loopw [5, 7] (fun o i wr => ∃ k : Nat, k ≤ g.length ∧ i = .int .i64 k ∧ Own wr w.heap.size o (marksTo g s k) ∧ Ext w wr ∧ Hid (∀ i, i < g.length → wr.cell? ⟨gb, i, none⟩ = some (.int .i64 (ballN g i : Nat))) ∧ Hid (o.ownBlock ≠ some gb) ∧ gb < wr.heap.size) (fun _ i _ => g.length - (intOf i).toNat)
    case atStart => exact ⟨0, Nat.zero_le _, rfl, HO0.out.ext X2.out, HX0.out.trans X2.out, HC, fun e => by simp [Value.ownBlock] at e; omega, hgb2⟩
    case round =>
      obtain ⟨k, hk, rfl, ho, hx, HC, HN, hgl⟩ := hrel
      have HO := Lib.hid ho; have HX := Lib.hid hx; clear ho hx
      by_cases hlt : k < g.length
      · have c1 := HC.out k hlt
        have hb4 := ballN_small HG.out hlt
        have e1 : bits .and .i64 (ballN g k : Int) (s : Int) = (markN g s k : Int) := bits_and (ballN g k) s (by omega) (by omega)
        go_wp2_with (at_builtin; refine wpList_append_int2 rfl _ _ rfl w.heap.size _ _ rfl (HO.out.alloc _) wr.heap.size _ rfl (one_cell _ _ _) (by rw [marksTo_length]; omega) (by simp; have := HX.out.size; omega) ?_; intro v' w3 ho3 hg3 hn3)
        have HX3 : Hid (Ext w w3) := (HO.out.alloc _).grew (HX.out.alloc _) hg3 (Nat.le_refl _)
        have HO3 : Hid (Own w3 w.heap.size v' (marksTo g s (k + 1))) := by rw [marksTo_succ]; exact ho3
        have HC3 : Hid (∀ i, i < g.length → w3.cell? ⟨gb, i, none⟩ = some (.int .i64 (ballN g i : Nat))) := fun i hi => by
          rw [← HC.out i hi]
          unfold World.cell?
          rw [hg3.block gb (by simp; omega) (fun e => HN.out e.symm), Below.heap_alloc _ _ _ hgl]
        have HN3 : Hid (v'.ownBlock ≠ some gb) := fun e => by
          rcases hn3 gb e with h | h
          · exact HN.out h
          · simp at h; omega
        have hgl3 : gb < w3.heap.size := Nat.lt_of_lt_of_le (by simp; omega) hg3.size
        clear ho3 hg3 hn3
        go_wp2
        go_roundw
        case rel => exact ⟨k + 1, by omega, by go_num, HO3.out, HX3.out, HC3, HN3, hgl3⟩
        case measure => simp [intOf]; omega
      · obtain rfl : k = g.length := by omega
        go_wp2
        go_ret
        exact ⟨_, rfl, HO.out, HX.out⟩

set_option maxHeartbeats 1000000 in
theorem marks_c (b : Nat) (v vb vf : Value) (vs : List Value) (g : List Int) (s : Nat) (w : World) (hb : IsBook w b g v vb vf vs) (hg : IsGraph g) (hs : s ≤ 4095) :
    Calls Try.prog 67 #[.pointer (some ⟨b, 0, none⟩), .int .i64 s] w fun e w' => ∃ v', e = .returned v' ∧ Own w' w.heap.size v' (marksTo g s g.length) ∧ Ext w w' := by
  obtain ⟨base, ob⟩ := hb.hb
  obtain ⟨gb, cb, rfl⟩ := ob.form' (ballsTo_length g g.length)
  have HB := Lib.hid (ob.rd)
  have c1 := hb.balls
  have HG := Lib.hid hg
  have hl := hg.le
  clear ob hb hg
  go_enter Try.func67, Try.ntmps67
  go_wp2
  clear c1
  go_loopw [5, 13] (fun o i wr => ∃ k : Nat, k ≤ g.length ∧ i = .int .i64 k ∧ Own wr w.heap.size o (marksTo g s k) ∧ Ext w wr) (fun _ i _ => g.length - (intOf i).toNat)
  case atStart => exact ⟨0, Nat.zero_le _, rfl, Own.nil _ _, Ext.refl _⟩
  case round =>
    obtain ⟨k, hk, rfl, ho, hx⟩ := hrel
    have HO := Lib.hid ho; have HX := Lib.hid hx; clear ho hx
    by_cases hlt : k < g.length
    · obtain ⟨bb, o, rfl, -, -, hc⟩ := HB.out.atI hlt
      have c1 := hc _ HX.out
      clear hc
      rw [show getI (ballsTo g g.length) k = ((ballN g k : Nat) : Int) from ballsTo_get _ _ _ hlt] at c1
      have hb4 := ballN_small HG.out hlt
      have e1 : bits .and .i64 (ballN g k : Int) (s : Int) = (markN g s k : Int) := bits_and (ballN g k) s (by omega) (by omega)
      go_wp2_with (at_builtin; refine wpList_append_int rfl _ _ rfl w.heap.size _ _ rfl (HO.out.alloc _) wr.heap.size _ rfl (one_cell _ _ _) (by rw [marksTo_length]; omega) (by simp; have := HX.out.size; omega) ?_; intro v' w3 ho3 hg3 hn3)
      have HX3 : Hid (Ext w w3) := (HO.out.alloc _).grew (HX.out.alloc _) hg3 (Nat.le_refl _)
      have HO3 : Hid (Own w3 w.heap.size v' (marksTo g s (k + 1))) := by rw [marksTo_succ]; exact ho3
      clear ho3 hg3 hn3
      go_wp2
      go_roundw
      case rel => exact ⟨k + 1, by omega, by go_num, HO3.out, HX3.out⟩
      case measure => simp [intOf]; omega
    · obtain rfl : k = g.length := by omega
      go_wp2
      go_ret
      exact ⟨_, rfl, HO.out, HX.out⟩
end Go.Proofs.Ytpmammklklkheaa
