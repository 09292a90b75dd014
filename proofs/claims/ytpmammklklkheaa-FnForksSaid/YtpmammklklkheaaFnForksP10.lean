/- What the walk of FnForks rests on, part 10: plain facts, and contracts of the functions that it reaches. Each states its own condition. -/
import Derived.Test.YtpmammklklkheaaFnForksP8
import Derived.Test.YtpmammklklkheaaFnForksP6
/- The distances of a node by the reference: the same list as the program's. No condition. -/
namespace Go.Proofs.Ytpmammklklkheaa
open Go.RowKit
open BigFrame

/-- Whether node y has been met from the nodes at the distance d, up to the place (i, k). -/
def metAt (g : List Int) (x d i k y : Nat) : Bool := (List.range g.length).any fun j => (decide (j < i) || (decide (j = i) && decide (y < k))) && decide (dd g x j = d) && (gN g j).testBit y
def curAt (g : List Int) (x d i k y : Nat) : Nat := if dd g x y ≤ d then dd g x y else if metAt g x d i k y then d + 1 else 12
def curL (g : List Int) (x d i k : Nat) : List Int := (List.range g.length).map fun y => ((curAt g x d i k y : Nat) : Int)
theorem curL_length (g : List Int) (x d i k : Nat) : (curL g x d i k).length = g.length := by simp [curL]
theorem curL_get (g : List Int) (x d i k : Nat) {y : Nat} (h : y < g.length) : (curL g x d i k).getD y 0 = ((curAt g x d i k y : Nat) : Int) := by simp [curL, h]
theorem metAt_iff {g : List Int} {x d i k y : Nat} : metAt g x d i k y = true ↔ ∃ j, j < g.length ∧ (j < i ∨ j = i ∧ y < k) ∧ dd g x j = d ∧ (gN g j).testBit y = true := by
  unfold metAt
  simp only [List.any_eq_true, List.mem_range, Bool.and_eq_true, Bool.or_eq_true, decide_eq_true_eq, and_assoc]
theorem curL_congr {g : List Int} {x d i k d' i' k' : Nat} (h : ∀ y, y < g.length → curAt g x d i k y = curAt g x d' i' k' y) : curL g x d i k = curL g x d' i' k' := by
  unfold curL
  apply List.map_congr_left
  intro y hy
  rw [h y (List.mem_range.1 hy)]
theorem map_set {n k : Nat} {f f' : Nat → Int} (_ : k < n) (h : ∀ y, y ≠ k → f y = f' y) : ((List.range n).map f).set k (f' k) = (List.range n).map f' := by
  apply List.ext_getElem
  · simp
  · intro i h1 h2
    simp only [List.length_set, List.length_map, List.length_range] at h1
    by_cases e : i = k
    · subst e; simp
    · rw [List.getElem_set_ne (fun h => e h.symm)]
      simp [h i e]
theorem metAt_next {g : List Int} {x d i k y : Nat} (hi : i < g.length) : metAt g x d i (k + 1) y = (metAt g x d i k y || (decide (y = k) && decide (dd g x i = d) && (gN g i).testBit y)) := by
  rw [Bool.eq_iff_iff, Bool.or_eq_true, metAt_iff, metAt_iff, Bool.and_eq_true, Bool.and_eq_true, decide_eq_true_iff, decide_eq_true_iff]
  constructor
  · rintro ⟨j, h1, h2 | ⟨rfl, h2⟩, h3, h4⟩
    · exact .inl ⟨j, h1, .inl h2, h3, h4⟩
    · by_cases e : y = k
      · exact .inr ⟨⟨e, h3⟩, h4⟩
      · exact .inl ⟨j, h1, .inr ⟨rfl, by omega⟩, h3, h4⟩
  · rintro (⟨j, h1, h2 | ⟨rfl, h2⟩, h3, h4⟩ | ⟨⟨e, h3⟩, h4⟩)
    · exact ⟨j, h1, .inl h2, h3, h4⟩
    · exact ⟨j, h1, .inr ⟨rfl, by omega⟩, h3, h4⟩
    · exact ⟨i, hi, .inr ⟨rfl, by omega⟩, h3, h4⟩
theorem curAt_self {g : List Int} {x d i k j : Nat} (hd : d ≤ 11) : curAt g x d i k j = d ↔ dd g x j = d := by
  unfold curAt
  split
  · exact Iff.rfl
  · split <;> omega
/-- The place (i, k) is looked at: what is stored, if anything. -/
def putsAt (g : List Int) (x d i k : Nat) : Bool := decide (dd g x i = d) && (gN g i).testBit k && decide (d + 1 < curAt g x d i k k)
theorem curL_put {g : List Int} {x d i k : Nat} (hi : i < g.length) (hk : k < g.length) (h : putsAt g x d i k = true) : curL g x d i (k + 1) = (curL g x d i k).set k (((d + 1 : Nat) : Int)) := by
  unfold putsAt at h
  simp only [Bool.and_eq_true, decide_eq_true_eq] at h
  obtain ⟨⟨h1, h2⟩, h3⟩ := h
  have e : curAt g x d i (k + 1) k = d + 1 := by
    unfold curAt at h3 ⊢
    split at h3
    · omega
    · rename_i hc
      rw [if_neg hc, metAt_next hi, h2]
      simp [h1]
  unfold curL
  have := map_set (n := g.length) (k := k) (f := fun y => ((curAt g x d i k y : Nat) : Int)) (f' := fun y => ((curAt g x d i (k + 1) y : Nat) : Int)) hk (fun y hy => by
    show ((curAt g x d i k y : Nat) : Int) = ((curAt g x d i (k + 1) y : Nat) : Int)
    unfold curAt
    rw [metAt_next hi, decide_eq_false hy]
    simp)
  rw [← this, e]
theorem curL_skip {g : List Int} {x d i k : Nat} (hi : i < g.length) (hd : d ≤ 11) (h : putsAt g x d i k = false) : curL g x d i (k + 1) = curL g x d i k := by
  apply curL_congr
  intro y _
  by_cases e : y = k
  · subst e
    unfold putsAt at h
    by_cases h1 : dd g x i = d
    · cases h2 : (gN g i).testBit y
      · unfold curAt
        rw [metAt_next hi, h2]
        simp
      · rw [h2, decide_eq_true h1] at h
        have h3 : ¬ d + 1 < curAt g x d i y y := by simpa using h
        unfold curAt at h3 ⊢
        split at h3
        · rename_i hc; rw [if_pos hc, if_pos hc]
        · rename_i hc
          rw [if_neg hc, if_neg hc, metAt_next hi, h2]
          split at h3
          · rename_i hm; rw [hm]; simp
          · simp [h1]
            omega
    · unfold curAt
      rw [metAt_next hi, decide_eq_false h1]
      simp
  · unfold curAt
    rw [metAt_next hi, decide_eq_false e]
    simp
theorem curL_row {g : List Int} {x d i : Nat} : curL g x d (i + 1) 0 = curL g x d i g.length := by
  apply curL_congr
  intro y hy
  have : metAt g x d (i + 1) 0 y = metAt g x d i g.length y := by
    rw [Bool.eq_iff_iff, metAt_iff, metAt_iff]
    constructor
    · rintro ⟨j, h1, h2 | ⟨_, h2⟩, h3, h4⟩
      · by_cases e : j = i
        · exact ⟨j, h1, .inr ⟨e, hy⟩, h3, h4⟩
        · exact ⟨j, h1, .inl (by omega), h3, h4⟩
      · omega
    · rintro ⟨j, h1, h2 | ⟨rfl, _⟩, h3, h4⟩
      · exact ⟨j, h1, .inl (by omega), h3, h4⟩
      · exact ⟨j, h1, .inl (by omega), h3, h4⟩
  unfold curAt
  rw [this]
theorem metAt_all {g : List Int} {x d y : Nat} : metAt g x d g.length 0 y = true ↔ ∃ z, dd g x z = d ∧ (gN g z).testBit y = true := by
  rw [metAt_iff]
  constructor
  · rintro ⟨j, _, _, h3, h4⟩; exact ⟨j, h3, h4⟩
  · rintro ⟨z, h3, h4⟩
    have hz : z < g.length := by
      rcases Nat.lt_or_ge z g.length with h | h
      · exact h
      · rw [gN_out h, Nat.zero_testBit] at h4; cases h4
    exact ⟨z, hz, .inl hz, h3, h4⟩
theorem metAt_zero {g : List Int} {x d y : Nat} : metAt g x d 0 0 y = false := by
  rw [← Bool.not_eq_true, metAt_iff]
  rintro ⟨j, _, h2 | ⟨_, h2⟩, _⟩ <;> omega
theorem curL_round {g : List Int} (hg : IsGraph g) {x d : Nat} (hd : d ≤ 11) : curL g x (d + 1) 0 0 = curL g x d g.length 0 := by
  apply curL_congr
  intro y _
  have hle := dd_le g x y
  unfold curAt
  rw [metAt_zero]
  by_cases h1 : dd g x y ≤ d
  · rw [if_pos h1, if_pos (by omega)]
  · rw [if_neg h1]
    by_cases h10 : d ≤ 10
    · have hs := dd_step hg h10 (show d < dd g x y by omega)
      by_cases h2 : dd g x y = d + 1
      · rw [if_pos (by omega), metAt_all.2 (hs.1 h2), if_pos rfl]; exact h2
      · rw [if_neg (by omega)]
        have : metAt g x d g.length 0 y = false := by
          rw [← Bool.not_eq_true, metAt_all]
          exact fun h => h2 (hs.2 h)
        rw [this]
        simp
    · rw [if_pos (by omega)]
      split <;> omega
theorem curL_start {g : List Int} (hg : IsGraph g) {x : Nat} (hx : x < g.length) : (List.replicate g.length (12 : Int)).set x 0 = curL g x 0 0 0 := by
  apply List.ext_getElem
  · simp [curL_length]
  · intro i h1 h2
    simp only [List.length_set, List.length_replicate] at h1
    have hc : (curL g x 0 0 0)[i]'h2 = ((curAt g x 0 0 0 i : Nat) : Int) := by simp [curL]
    rw [hc]
    unfold curAt
    rw [metAt_zero]
    have hz := dd_zero hg (x := x) (y := i)
    by_cases e : i = x
    · subst e
      rw [List.getElem_set_self, if_pos (by have := hz.2 rfl; omega), hz.2 rfl]; rfl
    · rw [List.getElem_set_ne (fun h => e h.symm), if_neg (by have := mt hz.1 e; omega)]
      simp
theorem curL_end {g : List Int} (hg : IsGraph g) {x : Nat} (hx : x < g.length) : curL g x g.length 0 0 = distOf g x := by
  have hlen := dist_length hg hx
  apply List.ext_getElem
  · rw [curL_length, hlen]
  · intro i h1 h2
    rw [curL_length] at h1
    have hc : (curL g x g.length 0 0)[i]'(by rw [curL_length]; exact h1) = ((curAt g x g.length 0 0 i : Nat) : Int) := by simp [curL]
    have hd : (distOf g x)[i]'h2 = ((dd g x i : Nat) : Int) := by
      have := dist_get hg hx h1
      rw [List.getD_eq_getElem?_getD, List.getElem?_eq_getElem h2] at this
      exact this
    rw [hc, hd]
    unfold curAt
    rw [metAt_zero]
    simp only [Bool.false_eq_true, if_false]
    have hle := dd_le g x i
    by_cases h : dd g x i ≤ 11
    · have := dd_top hg hx h
      rw [if_pos (show dd g x i ≤ g.length by omega)]
    · split <;> omega
theorem replicate_next (k : Nat) : List.replicate k (12 : Int) ++ [12] = List.replicate (k + 1) 12 := (List.replicate_succ' ..).symm

set_option maxRecDepth 100000 in
set_option maxHeartbeats 4000000 in
theorem l1Distances_c (v : Value) (g : List Int) (x : Nat) (w : World) (hv : Rd w v g) (hg : IsGraph g) (hx : x < g.length) :
    Calls Try.prog 125 #[v, .int .i64 x] w fun e w' => ∃ v', e = .returned v' ∧ Own w' w.heap.size v' (distOf g x) ∧ Ext w w' := by
  obtain ⟨a, c, rfl⟩ := hv.form
  obtain ⟨W, hW⟩ : ∃ W, W = w.alloc (.cells #[] 3) := ⟨_, rfl⟩
  have ho0 : Own W w.heap.size (.slice (some ⟨w.heap.size, 0, none⟩) 0 0) [] := by rw [hW]; exact Own.lit w
  have hx0 : Ext w W := by rw [hW]; exact (Ext.refl _).alloc _
  have HW := Lib.hid hW; have HO0 := Lib.hid ho0; have HX0 := Lib.hid hx0; have HV := Lib.hid hv
  have HG := Lib.hid hg
  have hl := hg.le
  have hl1 := hg.pos
  clear hv hW ho0 hx0 hg
  go_enter Try.func125, Try.ntmps125
  go_wp2
  rw [← HW.out]
  go_loopw [5, 6] (fun o i wr => ∃ k : Nat, k ≤ g.length ∧ i = .int .i64 k ∧ Hid (Own wr w.heap.size o (List.replicate k 12)) ∧ Hid (Ext w wr)) (fun _ i _ => g.length - (intOf i).toNat)
  case atStart => exact ⟨0, Nat.zero_le _, rfl, HO0.out, HX0.out⟩
  case round =>
    clear HO0 HX0
    obtain ⟨k, hk, rfl, HO, HX⟩ := hrel
    by_cases hlt : k < g.length
    · go_wp2_with (at_builtin; refine wpList_append_int rfl _ _ rfl w.heap.size _ _ rfl (HO.out.alloc _) wr.heap.size 12 rfl (one_cell wr _ _) (by simp; omega) (by simp; have := HX.out.size; omega) ?_; intro v' w3 ho3 hg3 hn3)
      have HX3 : Hid (Ext w w3) := (HO.out.alloc _).grew (HX.out.alloc _) hg3 (Nat.le_refl _)
      have HO3 : Hid (Own w3 w.heap.size v' (List.replicate (k + 1) 12)) := by rw [← replicate_next]; exact ho3
      clear ho3 hg3 hn3
      go_wp2
      go_roundw
      case rel => exact ⟨k + 1, by omega, by go_num, HO3, HX3⟩
      case measure => simp [intOf]; omega
    · obtain rfl : k = g.length := by omega
      rcases HO.out.get with ⟨h1, h2⟩ | ⟨gb, cb, he, -, hgb, hcb, hcl, hfr⟩
      · have := congrArg List.length h2
        rw [List.length_replicate, List.length_nil] at this
        omega
      · subst he
        rw [List.length_replicate] at hcb hcl
        have c1 : wr.cell? ⟨gb, x, none⟩ = some (.int .i64 12) := by rw [hcl x hx]; simp [hx]
        have f1 := hfr x
        have hO := HO.out.set x 0
        rw [List.length_replicate, curL_start HG.out hx] at hO
        rw [List.length_replicate]
        have hX : Ext w (wr.setCell ⟨gb, x, none⟩ (.int .i64 0)) := HX.out.setCell (HO.out.lt gb rfl).1 _
        obtain ⟨W2, hW2⟩ : ∃ V, V = wr.setCell ⟨gb, x, none⟩ (.int .i64 0) := ⟨_, rfl⟩
        rw [← hW2] at hO hX
        have HW2 := Lib.hid hW2; have HO2 := Lib.hid hO; have HX2 := Lib.hid hX
        have hgbw := (HO.out.lt gb rfl).1
        clear hW2 hO hX hcl hfr HO HX hcb
        go_wp2
        rw [← HW2.out]
        clear c1 f1 HW2
        go_loopw [7] (fun i wr => ∃ d : Nat, d ≤ g.length ∧ i = .int .i64 d ∧ Hid (Own wr w.heap.size (.slice (some ⟨gb, 0, none⟩) g.length cb) (curL g x d 0 0)) ∧ Hid (Ext w wr)) (fun i _ => g.length - (intOf i).toNat)
        case atStart => exact ⟨0, Nat.zero_le _, rfl, HO2.out, HX2.out⟩
        case round =>
          clear HO2 HX2
          obtain ⟨d, hd, rfl, HO, HX⟩ := hrel
          by_cases hld : d < g.length
          · go_wp2
            go_loopw [8] (fun i wr => ∃ j : Nat, j ≤ g.length ∧ i = .int .i64 j ∧ Hid (Own wr w.heap.size (.slice (some ⟨gb, 0, none⟩) g.length cb) (curL g x d j 0)) ∧ Hid (Ext w wr)) (fun i _ => g.length - (intOf i).toNat)
            case atStart => exact ⟨0, Nat.zero_le _, rfl, HO, HX⟩
            case round =>
              clear HO HX
              obtain ⟨i, hi, rfl, HO, HX⟩ := hrel
              by_cases hli : i < g.length
              · go_wp2
                go_loopw [9] (fun q wr => ∃ k : Nat, k ≤ g.length ∧ q = .int .i64 k ∧ Hid (Own wr w.heap.size (.slice (some ⟨gb, 0, none⟩) g.length cb) (curL g x d i k)) ∧ Hid (Ext w wr)) (fun q _ => g.length - (intOf q).toNat)
                case atStart => exact ⟨0, Nat.zero_le _, rfl, HO, HX⟩
                case round =>
                  clear HO HX
                  obtain ⟨k, hk, rfl, HO, HX⟩ := hrel
                  by_cases hlk : k < g.length
                  · obtain ⟨-, -, -, -, hcl, hfr⟩ := HO.out.at
                    have c1 := hcl i hli
                    have c2 := hcl k hlk
                    have f2 := hfr k
                    rw [curL_get g x d i k hli] at c1
                    rw [curL_get g x d i k hlk] at c2
                    have hself := curAt_self (g := g) (x := x) (d := d) (i := i) (k := k) (j := i) (by omega)
                    obtain ⟨bg, og, rfl, -, hbg, hcg⟩ := HV.out.atI hli
                    have cg := hcg _ HX.out
                    rw [HG.out.row i hli] at cg
                    have h4 := HG.out.small i
                    clear hcl hfr hcg
                    have HPUT : Hid (putsAt g x d i k = (decide (dd g x i = d) && (gN g i).testBit k && decide (d + 1 < curAt g x d i k k))) := rfl
                    obtain ⟨ci, hci⟩ : ∃ z, z = curAt g x d i k i := ⟨_, rfl⟩
                    obtain ⟨ck, hck⟩ : ∃ z, z = curAt g x d i k k := ⟨_, rfl⟩
                    rw [← hci] at c1 hself
                    rw [← hck] at c2 HPUT
                    have HBT := Lib.hid (l1Bit_c (gN g i) k (by omega) (by omega))
                    clear hci hck
                    by_cases h1 : dd g x i = d
                    · have hcd := hself.2 h1
                      rw [hcd] at c1
                      rw [decide_eq_true h1] at HPUT
                      clear h1 hself hcd
                      cases h2 : (gN g i).testBit k
                      · rw [h2] at HPUT HBT
                        have HPF : Hid (putsAt g x d i k = false) := by unfold Hid; rw [HPUT.out]; rfl
                        clear h2 HPUT
                        have HS : Hid (curL g x d i (k + 1) = curL g x d i k) := curL_skip hli (by omega) HPF.out
                        go_wp2_with (go_at_call 48; refine (HBT.out _).mono ?_; rintro e w' ⟨rfl, rfl⟩)
                        go_roundw
                        case rel => exact ⟨k + 1, by omega, by go_num, by rw [HS.out]; exact HO, HX⟩
                        case measure => simp [intOf]; omega
                      · rw [h2] at HPUT HBT
                        clear h2
                        by_cases h3 : d + 1 < ck
                        · have HPT : Hid (putsAt g x d i k = true) := by unfold Hid; rw [HPUT.out, decide_eq_true h3]; rfl
                          have hO := HO.out.set k ((d + 1 : Nat) : Int)
                          rw [← curL_put hli hlk HPT.out] at hO
                          have HOS := Lib.hid hO
                          have HXS : Hid (∀ u : Value, Ext w (wr.setCell ⟨gb, k, none⟩ u)) := fun u => HX.out.setCell hgbw u
                          clear hO HPUT
                          go_wp2_with (go_at_call 48; refine (HBT.out _).mono ?_; rintro e w' ⟨rfl, rfl⟩)
                          go_roundw
                          case rel => exact ⟨k + 1, by omega, by go_num, HOS.out, HXS.out _⟩
                          case measure => simp [intOf]; omega
                        · have HPF : Hid (putsAt g x d i k = false) := by unfold Hid; rw [HPUT.out, decide_eq_false h3]; rfl
                          clear HPUT
                          have HS : Hid (curL g x d i (k + 1) = curL g x d i k) := curL_skip hli (by omega) HPF.out
                          go_wp2_with (go_at_call 48; refine (HBT.out _).mono ?_; rintro e w' ⟨rfl, rfl⟩)
                          go_roundw
                          case rel => exact ⟨k + 1, by omega, by go_num, by rw [HS.out]; exact HO, HX⟩
                          case measure => simp [intOf]; omega
                    · have hcd : ((ci : Int) == (d : Int)) = false := by simp; exact fun h => h1 (hself.1 (by omega))
                      have HPF : Hid (putsAt g x d i k = false) := by unfold Hid; rw [HPUT.out, decide_eq_false h1]; rfl
                      clear h1 hself HPUT
                      have HS : Hid (curL g x d i (k + 1) = curL g x d i k) := curL_skip hli (by omega) HPF.out
                      go_wp2_with (go_at_call 48; refine (HBT.out _).mono ?_; rintro e w' ⟨rfl, rfl⟩)
                      go_roundw
                      case rel => exact ⟨k + 1, by omega, by go_num, by rw [HS.out]; exact HO, HX⟩
                      case measure => simp [intOf]; omega
                  · obtain rfl : k = g.length := by omega
                    go_wp2
                    go_roundw
                    case rel => exact ⟨i + 1, by omega, by go_num, by rw [curL_row]; exact HO, HX⟩
                    case measure => simp [intOf]; omega
              · obtain rfl : i = g.length := by omega
                go_wp2
                go_roundw
                case rel => exact ⟨d + 1, by omega, by go_num, by rw [curL_round HG.out (by omega)]; exact HO, HX⟩
                case measure => simp [intOf]; omega
          · obtain rfl : d = g.length := by omega
            go_wp2
            go_ret
            exact ⟨_, rfl, by rw [← curL_end HG.out hx]; exact HO.out, HX.out⟩
end Go.Proofs.Ytpmammklklkheaa

/- Whether a code bears wrong sensors: the reference and the program compute the same plain function. No condition. -/
namespace Go.Proofs.Ytpmammklklkheaa
open Go.RowKit
open BigFrame

def bearP (g : List Int) (s t i k : Nat) : Bool := decide (2 * t + 1 ≤ cnt (bxor (markN g s i) (markN g s k)))
def bearRow (g : List Int) (s t i : Nat) : Bool := decide (2 * t + 1 ≤ cnt (markN g s i)) && (List.range i).all (bearP g s t i)
def bearsN (g : List Int) (s t : Nat) : Bool := (List.range g.length).all (bearRow g s t)
theorem bears_false {N k : Nat} {p : Nat → Bool} (hk : k < N) (h : p k = false) : (List.range N).all p = false := by
  rw [List.all_eq_false]; exact ⟨k, List.mem_range.2 hk, by rw [h]; decide⟩
theorem bears_true {N : Nat} {p : Nat → Bool} (h : ∀ k, k < N → p k = true) : (List.range N).all p = true := by
  rw [List.all_eq_true]; exact fun k hk => h k (List.mem_range.1 hk)
theorem bxor_small {a b : Nat} (ha : a ≤ 4095) (hb : b ≤ 4095) : bxor a b ≤ 4095 := by
  have := bxor_lt (x := a) (y := b) (n := 12) (by omega) (by omega)
  omega

set_option maxHeartbeats 2000000 in
theorem l5Bears_c (v : Value) (g : List Int) (s t : Nat) (w : World) (hv : Rd w v g) (hg : IsGraph g) (hs : s ≤ 4095) (ht : t ≤ 4) :
    Calls Try.prog 66 #[v, .int .i64 s, .int .i64 t] w fun e w' => e = .returned (.bool (bearsN g s t)) ∧ Ext w w' := by
  obtain ⟨a, c, rfl⟩ := hv.form
  have HV := Lib.hid hv; have HG := Lib.hid hg
  have hl := hg.le
  clear hv hg
  go_enter Try.func66, Try.ntmps66
  go_wp2_with fail
  refine (l2Marks_c _ g s _ HV.out HG.out hs).mono ?_
  rintro e w1 ⟨vm, rfl, om, x1⟩
  obtain ⟨gm, cm, rfl⟩ := om.form' (marksTo_length g s g.length)
  have OM := Lib.hid om.rd; have X1 := Lib.hid x1
  clear om x1
  go_wp2
  go_loopw [8] (fun i wr => ∃ k : Nat, k ≤ g.length ∧ i = .int .i64 k ∧ Hid (∀ j, j < k → bearRow g s t j = true) ∧ Ext w1 wr) (fun i _ => g.length - (intOf i).toNat)
  case atStart => exact ⟨0, Nat.zero_le _, rfl, fun j hj => absurd hj (Nat.not_lt_zero j), Ext.refl _⟩
  case round =>
    obtain ⟨i, hi, rfl, HI, hx⟩ := hrel
    have HX := Lib.hid hx; clear hx
    by_cases hlt : i < g.length
    · obtain ⟨b, o, rfl, -, hbl, hc⟩ := OM.out.atI hlt
      have c1 := hc _ HX.out
      rw [show getI (marksTo g s g.length) i = ((markN g s i : Nat) : Int) from marksTo_get _ _ _ _ hlt] at c1
      have m4 := markN_small HG.out hlt s
      clear hc
      by_cases hz : cnt (markN g s i) < 2 * t + 1
      · have HZ : Hid (bearRow g s t i = false) := by unfold bearRow Hid; rw [decide_eq_false (by omega)]; rfl
        go_wp2_with (go_at_call 70; refine (l1Count_c _ (by omega) _).mono ?_; rintro e w' ⟨rfl, rfl⟩)
        go_ret
        exact ⟨ret_bool (bears_false hlt HZ.out).symm, X1.out.trans HX.out⟩
      · have HZ := Lib.hid hz
        go_wp2_with (go_at_call 70; refine (l1Count_c _ (by omega) _).mono ?_; rintro e w' ⟨rfl, rfl⟩)
        clear c1 hz
        obtain ⟨wo, rfl⟩ : ∃ wo : World, wo = wr := ⟨_, rfl⟩
        go_loopw [9] (fun q wr => ∃ k : Nat, k ≤ i ∧ q = .int .i64 k ∧ Hid (∀ j, j < k → bearP g s t i j = true) ∧ Ext w1 wr) (fun q _ => i - (intOf q).toNat)
        case atStart => exact ⟨0, Nat.zero_le _, rfl, fun j hj => absurd hj (Nat.not_lt_zero j), HX.out⟩
        case round =>
          clear HX
          obtain ⟨k, hk, rfl, HJ, hx⟩ := hrel
          have HX := Lib.hid hx; clear hx
          by_cases hlk : k < i
          · obtain ⟨b', o', he, -, -, hc⟩ := OM.out.atI hlt
            obtain ⟨rfl, rfl⟩ : b = b' ∧ o = o' := by simpa using he
            have c1 := fun u => hc _ (HX.out.trans (clip_ext wr u))
            rw [show getI (marksTo g s g.length) i = ((markN g s i : Nat) : Int) from marksTo_get _ _ _ _ hlt] at c1
            clear hc he
            obtain ⟨b', o', he, -, -, hc⟩ := OM.out.atI (k := k) (by omega)
            obtain ⟨rfl, rfl⟩ : b = b' ∧ o = o' := by simpa using he
            have c2 := fun u => hc _ (HX.out.trans (clip_ext wr u))
            rw [show getI (marksTo g s g.length) k = ((markN g s k : Nat) : Int) from marksTo_get _ _ _ _ (by omega)] at c2
            clear hc he
            have n4 := markN_small HG.out (show k < g.length by omega) s
            have e1 := bits_xor (markN g s i) (markN g s k) (by omega) (by omega)
            have x4 := bxor_small m4 n4
            have HL := Lib.hid fun w => l1Count_c (bxor (markN g s i) (markN g s k)) (by omega) w
            by_cases hy : cnt (bxor (markN g s i) (markN g s k)) < 2 * t + 1
            · have HY : Hid (bearP g s t i k = false) := by unfold bearP Hid; rw [decide_eq_false (by omega)]
              go_wp2
              refine wp_region_ext (by kernel_rfl) (by kernel_rfl) ?_
              repeat (go_big_quiet_step ((go_at_call 70; exact Calls.clip_same (HL.out _))))
              refine wpQuiet_nil ?_
              rintro _ ⟨u, rfl⟩
              go_wp2
              go_ret
              exact ⟨ret_bool (bears_false hlt (by unfold bearRow; rw [bears_false hlk HY.out, Bool.and_false])).symm, X1.out.trans (HX.out.trans (clip_ext _ _))⟩
            · have HY : Hid (bearP g s t i k = true) := by unfold bearP Hid; rw [decide_eq_true (by omega)]
              go_wp2
              refine wp_region_ext (by kernel_rfl) (by kernel_rfl) ?_
              repeat (go_big_quiet_step ((go_at_call 70; exact Calls.clip_same (HL.out _))))
              refine wpQuiet_nil ?_
              rintro _ ⟨u, rfl⟩
              go_wp2
              go_roundw
              case rel => exact ⟨k + 1, by omega, by go_num, fun j hj => by
                by_cases h : j = k
                · subst h; exact HY.out
                · exact HJ.out j (by omega), HX.out.trans (clip_ext _ _)⟩
              case measure => simp [intOf]; omega
          · obtain rfl : k = i := by omega
            go_wp2
            go_roundw
            case rel => exact ⟨k + 1, by omega, by go_num, fun j hj => by
              by_cases h : j = k
              · subst h; unfold bearRow; rw [decide_eq_true (by have := HZ.out; omega), bears_true HJ.out]; rfl
              · exact HI.out j (by omega), HX.out⟩
            case measure => simp [intOf]; omega
    · obtain rfl : i = g.length := by omega
      go_wp2
      go_ret
      exact ⟨ret_bool (bears_true HI.out).symm, X1.out.trans HX.out⟩

set_option maxHeartbeats 2000000 in
theorem bears_c (b : Nat) (v vb vf : Value) (vs : List Value) (g : List Int) (s t : Nat) (w : World) (hb : IsBook w b g v vb vf vs) (hg : IsGraph g) (hs : s ≤ 4095) (ht : t ≤ 4) :
    Calls Try.prog 62 #[.pointer (some ⟨b, 0, none⟩), .int .i64 s, .int .i64 t] w fun e w' => e = .returned (.bool (bearsN g s t)) ∧ Ext w w' := by
  have HB := Lib.hid hb; have HG := Lib.hid hg
  have hl := hg.le
  have hl1 := hg.pos
  clear hb hg
  go_enter Try.func62, Try.ntmps62
  go_wp2_with fail
  refine (marks_c b _ _ _ _ g s _ HB.out HG.out hs).mono ?_
  rintro e w1 ⟨vm, rfl, om, x1⟩
  have X1 := Lib.hid x1; clear x1
  rcases om.get with ⟨rfl, hnil⟩ | ⟨gm, cm, rfl, -, -, hcm, hcells, -⟩
  · have h1 := congrArg List.length hnil
    rw [marksTo_length, List.length_nil] at h1
    omega
  · rw [marksTo_length] at hcm
    have HC : Hid (∀ i, i < g.length → w1.cell? ⟨gm, i, none⟩ = some (.int .i64 (markN g s i : Nat))) := fun i hi => by
      rw [hcells i (by rw [marksTo_length]; exact hi), marksTo_get _ _ _ _ hi]
    clear hcells om
    rw [marksTo_length]
    go_wp2
    go_loop [17] (fun i => ∃ k : Nat, k ≤ g.length ∧ i = .int .i64 k ∧ Hid (∀ j, j < k → bearRow g s t j = true)) (fun i => g.length - (intOf i).toNat)
    case atStart => exact ⟨0, Nat.zero_le _, rfl, fun j hj => absurd hj (Nat.not_lt_zero j)⟩
    case round =>
      obtain ⟨i, hi, rfl, HI⟩ := hrel
      by_cases hlt : i < g.length
      · have c1 := HC.out i hlt
        have m4 := markN_small HG.out hlt s
        have HS := Lib.hid fun w => sizeC (markN g s i) m4 w
        by_cases hz : cnt (markN g s i) < 2 * t + 1
        · have HZ : Hid (bearRow g s t i = false) := by unfold bearRow Hid; rw [decide_eq_false (by omega)]; rfl
          go_wp2_with (go_at_call 57; refine (HS.out _).mono ?_; rintro e w' ⟨rfl, rfl⟩)
          go_ret
          exact ⟨ret_bool (bears_false hlt HZ.out).symm, X1.out⟩
        · have HZ := Lib.hid hz
          have hdf : decide ((cnt (markN g s i) : Int) < 2 * (t : Int) + 1) = false := by simp; omega
          go_wp2_with (go_at_call 57; refine (HS.out _).mono ?_; rintro e w' ⟨rfl, rfl⟩)
          try simp only [hdf]
          clear c1 hz hdf HS
          go_loop [32] (fun q => ∃ k : Nat, k ≤ i ∧ q = .int .i64 k ∧ Hid (∀ j, j < k → bearP g s t i j = true)) (fun q => i - (intOf q).toNat)
          case atStart => exact ⟨0, Nat.zero_le _, rfl, fun j hj => absurd hj (Nat.not_lt_zero j)⟩
          case round =>
            obtain ⟨k, hk, rfl, HJ⟩ := hrel
            by_cases hlk : k < i
            · have c2 := HC.out k (by omega)
              have n4 := markN_small HG.out (show k < g.length by omega) s
              have e1 := bits_xor (markN g s i) (markN g s k) (by omega) (by omega)
              have x4 := bxor_small m4 n4
              have HL := Lib.hid fun w => sizeC (bxor (markN g s i) (markN g s k)) x4 w
              by_cases hy : cnt (bxor (markN g s i) (markN g s k)) < 2 * t + 1
              · have HY : Hid (bearP g s t i k = false) := by unfold bearP Hid; rw [decide_eq_false (by omega)]
                go_wp2_with (go_at_call 57; refine (HL.out _).mono ?_; rintro e w' ⟨rfl, rfl⟩)
                go_ret
                exact ⟨ret_bool (bears_false hlt (by unfold bearRow; rw [bears_false hlk HY.out, Bool.and_false])).symm, X1.out⟩
              · have HY : Hid (bearP g s t i k = true) := by unfold bearP Hid; rw [decide_eq_true (by omega)]
                go_wp2_with (go_at_call 57; refine (HL.out _).mono ?_; rintro e w' ⟨rfl, rfl⟩)
                go_round
                case rel => exact ⟨k + 1, by omega, by go_num, fun j hj => by
                  by_cases h : j = k
                  · subst h; exact HY.out
                  · exact HJ.out j (by omega)⟩
                case measure => simp [intOf]; omega
            · obtain rfl : k = i := by omega
              go_wp2
              go_round
              case rel => exact ⟨k + 1, by omega, by go_num, fun j hj => by
                by_cases h : j = k
                · subst h; unfold bearRow; rw [decide_eq_true (by have := HZ.out; omega), bears_true HJ.out]; rfl
                · exact HI.out j (by omega)⟩
              case measure => simp [intOf]; omega
      · obtain rfl : i = g.length := by omega
        go_wp2
        go_ret
        exact ⟨ret_bool (bears_true HI.out).symm, X1.out⟩
end Go.Proofs.Ytpmammklklkheaa
