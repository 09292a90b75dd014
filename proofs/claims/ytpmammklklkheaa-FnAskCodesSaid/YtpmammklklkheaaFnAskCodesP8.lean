/- What the walk of FnAskCodes rests on, part 8: plain facts, and contracts of the functions that it reaches. Each states its own condition. -/
import Derived.Test.YtpmammklklkheaaFnAskCodesP5
import Derived.Test.YtpmammklklkheaaFnAskCodesP4
import Derived.Test.YtpmammklklkheaaFnAskCodesP7
import Derived.Test.YtpmammklklkheaaFnAskCodesP3
/- Depths by the reference: a table of the depths of all sets. No condition. -/
namespace Go.Proofs.Ytpmammklklkheaa
open Go.RowKit
open BigFrame

/-- In a plain frame: a statement that reads or calls quietly in its first n operations; the others come behind them. -/
theorem wp_region_tail {P : Program} {id : Nat} {Q : Exit → Act → World → Prop} {a : Act} {w : World} {l : List Oper} (n : Nat) (hm : P.follows .mixedOrders = true) (hB : Region.lexTailB .any l.toArray n = true) (hd : noDefer l.toArray = true)
    (h : wpQuiet P l.toArray (fun w' => ∃ u, w' = clip w u) (fun a' => ∀ w', (∃ u, w' = clip w u) → wpListIn (FW none) 0 P l.toArray Q (l.drop n) a' w') (l.take n) a) : (Code.region id l.toArray true).wp P Q a w :=
  (wpIn_wide (n := 0)).1 (wpIn_quiet_tail (ro := none) (C := fun w' => ∃ u, w' = clip w u) n hm hB hd ⟨w.drew, (clip_of (Ext.refl w).drew).symm⟩ h)

/-- A slice value that leads to memory made behind w. -/
def Fresh (w : World) (v : Value) : Prop := ∀ b o s n c, v = .slice (some ⟨b, o, s⟩) n c → w.heap.size ≤ b
theorem Rd.grown {w w' : World} {b o n c : Nat} {xs : List Int} {row : Option Nat} (h : Rd w (.slice (some ⟨b, o, none⟩) n c) xs) (hg : w.grownBy w' row) (hne : row ≠ some b) : Rd w' (.slice (some ⟨b, o, none⟩) n c) xs := by
  obtain ⟨a, c', e, h⟩ := h
  refine ⟨a, c', e, h.imp id ?_⟩
  rintro ⟨b', o', rfl, hb, hc, h⟩
  simp only [Value.slice.injEq, Option.some.injEq, Addr.mk.injEq] at e
  obtain ⟨⟨rfl, rfl, -⟩, -, -⟩ := e
  exact ⟨b, o, rfl, Nat.lt_of_lt_of_le hb hg.size, hc, fun i hi => (World.cell?_of_block (a := ⟨b, o + i, none⟩) (hg.block b hb (fun e => hne e.symm))).trans (h i hi)⟩

def depsOf (g : List Int) : List Int := (List.range (2 ^ g.length)).map fun s => ((dep g s : Nat) : Int)
theorem depsOf_length (g : List Int) : (depsOf g).length = 2 ^ g.length := by simp [depsOf]
theorem depsOf_get (g : List Int) {s : Nat} (h : s < 2 ^ g.length) : (depsOf g).getD s 0 = ((dep g s : Nat) : Int) := by simp [depsOf, h]
/-- The table while set k is worked at, behind y nodes. -/
def depT (g : List Int) (k y i : Nat) : Nat := if i < k then dep g i else if i = k then depTo g k y else 0
def depU (g : List Int) (k i : Nat) : Nat := if i < k then dep g i else 0

set_option maxRecDepth 100000 in
set_option maxHeartbeats 2000000 in
theorem l6qDepths_c (v : Value) (g : List Int) (w : World) (hv : Rd w v g) (hg : IsGraph g) :
    Calls Try.prog 94 #[v] w fun e w' => ∃ v', e = .returned v' ∧ Rd w' v' (depsOf g) ∧ Fresh w v' ∧ Ext w w' := by
  obtain ⟨a, c, rfl⟩ := hv.form
  have HV := Lib.hid hv; have HG := Lib.hid hg
  have hl := hg.le
  clear hv hg
  obtain ⟨p, hp, hp1, hp2, hp3⟩ := pow_var g.length (by omega)
  have hp4 : p ≤ 4096 := by rw [← hp]; exact pow_le_12 hl
  have HP := Lib.hid hp; clear hp
  have e0 : min g.length 64 = g.length := by omega
  obtain ⟨i0, hi, hz0, hz1, hz2⟩ := info_parts info_int
  go_enter Try.func94, Try.ntmps94
  go_wp2_with (at_make; refine wpList_make_full _ rfl _ _ 23 rfl w.heap.size 3 i0 (.int .i64 0) 1 Try.underlying23 hi hz0 hz1 _ _ _ _ p rfl rfl rfl rfl (by rw [hz2]; omega) (by unfold maxLen; omega) (Nat.le_refl _) ?_; intro w2 hown hg2)
  have HX : Hid (Ext w w2) := (Ext.refl w).grown hg2 (fun _ h => by cases h)
  have HC : Hid (∀ i, i < p → w2.cell? ⟨w.heap.size, i, none⟩ = some (.int .i64 (depU g 1 i : Nat))) := fun i hi => by
    have h := World.ownsRow.cellAt hown i (by omega)
    rw [h]
    simp only [Value.cells, Nat.mul_one, toList_madeCells_one]
    have : depU g 1 i = 0 := by
      unfold depU
      split
      · obtain rfl : i = 0 := by omega
        exact dep_one (by decide)
      · rfl
    simp [hi, this]
  have HF : Hid (∀ i, w2.frozen? ⟨w.heap.size, i, none⟩ = false) := fun i => World.ownsRow.frozenAt hown i
  have hsz : w.heap.size < w2.heap.size := by
    obtain ⟨_, ⟨h, _⟩ | ⟨g, cap, cur, h, _, hh, _⟩⟩ := hown
    · cases h
    · simp only [Value.slice.injEq, Option.some.injEq, Addr.mk.injEq, and_true] at h
      rw [h.1]; exact (Array.getElem?_eq_some_iff.1 hh).1
  clear hown hg2 hi hz0 hz1 hz2
  go_loopw [4] (fun i wr => ∃ k : Nat, 1 ≤ k ∧ k ≤ p ∧ i = .int .i64 k ∧ Hid (∀ i, i < p → wr.cell? ⟨w.heap.size, i, none⟩ = some (.int .i64 (depU g k i : Nat))) ∧ Hid (∀ i, wr.frozen? ⟨w.heap.size, i, none⟩ = false) ∧ Hid (Ext w wr) ∧ w.heap.size < wr.heap.size) (fun i _ => p - (intOf i).toNat)
  case atStart => exact ⟨1, by omega, by omega, rfl, HC, HF, HX, hsz⟩
  case round =>
    clear HC HF HX hsz
    obtain ⟨k, hk1, hk, rfl, HC, HF, HX, hsz⟩ := hrel
    by_cases hlt : k < p
    · have e1 := bits_and k (k - 1) (by omega) (by omega)
      rw [show ((k - 1 : Nat) : Int) = (k : Int) - 1 from by omega] at e1
      have hk4 : k ≤ 4095 := by omega
      by_cases h1 : band k (k - 1) = 0
      · have hb : (((band k (k - 1) : Nat) : Int) == 0) = true := by simp [h1]
        have HD := Lib.hid (dep_one (g := g) h1)
        clear h1
        go_wp2
        go_roundw
        case rel => exact ⟨k + 1, by omega, by omega, by go_num, fun i hi => by
          rw [HC.out i hi]
          have : depU g k i = depU g (k + 1) i := by
            unfold depU
            by_cases h : i = k
            · subst h; rw [if_neg (by omega), if_pos (by omega), HD.out]
            · by_cases h' : i < k
              · rw [if_pos h', if_pos (by omega)]
              · rw [if_neg h', if_neg (by omega)]
          rw [this], HF, HX, hsz⟩
        case measure => simp [intOf]; omega
      · have hb : (((band k (k - 1) : Nat) : Int) == 0) = false := by simp [h1]
        have HD := Lib.hid (dep_more (g := g) h1)
        have c1 := HC.out k hlt
        have f1 := HF.out k
        clear h1
        go_wp2
        obtain ⟨W, hW⟩ : ∃ V, V = wr.setCell ⟨w.heap.size, k, none⟩ (.int .i64 99) := ⟨_, rfl⟩
        rw [← hW]
        have HC2 : Hid (∀ i, i < p → W.cell? ⟨w.heap.size, i, none⟩ = some (.int .i64 (depT g k 0 i : Nat))) := fun i hi => by
          rw [hW]
          by_cases h : i = k
          · subst h
            rw [World.cell?_setCell_same' _ _ _ (by rw [c1]; rfl)]
            have : depT g i 0 i = 99 := by unfold depT; rw [if_neg (by omega), if_pos rfl]; rfl
            rw [this]; rfl
          · rw [World.cell?_setCell_other _ _ _ _ (fun e => h (congrArg Addr.off e).symm), HC.out i hi]
            have : depT g k 0 i = depU g k i := by unfold depT depU; rw [if_neg h]
            rw [this]
        have HF2 : Hid (∀ i, W.frozen? ⟨w.heap.size, i, none⟩ = false) := fun i => by rw [hW, World.frozen?_setCell]; exact HF.out i
        have HX2 : Hid (Ext w W) := by rw [hW]; exact HX.out.setCell (Nat.le_refl _) _
        have hsz2 : w.heap.size < W.heap.size := by rw [hW]; simpa using hsz
        clear hW c1 f1 HC HF HX hsz
        go_loopw [5] (fun i wr => ∃ y : Nat, y ≤ g.length ∧ i = .int .i64 y ∧ Hid (∀ i, i < p → wr.cell? ⟨w.heap.size, i, none⟩ = some (.int .i64 (depT g k y i : Nat))) ∧ Hid (∀ i, wr.frozen? ⟨w.heap.size, i, none⟩ = false) ∧ Hid (Ext w wr) ∧ w.heap.size < wr.heap.size) (fun i _ => g.length - (intOf i).toNat)
        case atStart => exact ⟨0, Nat.zero_le _, rfl, HC2, HF2, HX2, hsz2⟩
        case round =>
          clear HC2 HF2 HX2 hsz2
          obtain ⟨y, hy, rfl, HC, HF, HX, hsz⟩ := hrel
          by_cases hly : y < g.length
          · obtain ⟨I, hI⟩ : ∃ I, I = qIn g k y := ⟨_, rfl⟩
            obtain ⟨O, hO⟩ : ∃ O, O = without k (qIn g k y) := ⟨_, rfl⟩
            have HQ := Lib.hid (l6qIn_c (.slice a g.length c) g k y wr (HV.out.ext HX.out) HG.out hk4 hly)
            rw [← hI] at HQ
            have hI4 : I ≤ k := by rw [hI]; exact qIn_le _ _ _
            by_cases h1 : I = 0
            · have hI0 : ((I : Int) != 0) = false := by simp [h1]
              have HT : Hid (tells g k y = false) := by unfold Hid tells; rw [← hI]; simp [h1]
              clear hI hO
              go_wp2_with (go_at_call 118; refine HQ.out.mono ?_; rintro e w' ⟨rfl, x1⟩)
              rename_i w1
              have X1 := Lib.hid x1; clear x1
              go_roundw
              case rel => exact ⟨y + 1, by omega, by go_num, fun i hi => by
                rw [X1.out.cell hsz, HC.out i hi]
                have : depT g k y i = depT g k (y + 1) i := by
                  unfold depT
                  split
                  · rfl
                  · split
                    · show depTo g k y = min (depTo g k y) (depAt g k y)
                      have := minTo_le (depAt g k) y
                      have h2 : depAt g k y = 99 := by unfold depAt; rw [HT.out]; rfl
                      unfold depTo; omega
                    · rfl
                rw [this], fun i => by rw [X1.out.frozen hsz]; exact HF.out i, HX.out.trans X1.out, Nat.lt_of_lt_of_le hsz X1.out.size⟩
              case measure => simp [intOf]; omega
            · have hI0 : ((I : Int) != 0) = true := by simp [h1]
              by_cases h2 : I = k
              · have hIk : ((I : Int) != (k : Int)) = false := by simp [h2]
                have HT : Hid (tells g k y = false) := by unfold Hid tells; rw [← hI]; simp [h2]
                clear hI hO h2
                go_wp2_with (go_at_call 118; refine HQ.out.mono ?_; rintro e w' ⟨rfl, x1⟩)
                rename_i w1
                have X1 := Lib.hid x1; clear x1
                go_roundw
                case rel => exact ⟨y + 1, by omega, by go_num, fun i hi => by
                  rw [X1.out.cell hsz, HC.out i hi]
                  have : depT g k y i = depT g k (y + 1) i := by
                    unfold depT
                    split
                    · rfl
                    · split
                      · show depTo g k y = min (depTo g k y) (depAt g k y)
                        have := minTo_le (depAt g k) y
                        have h2 : depAt g k y = 99 := by unfold depAt; rw [HT.out]; rfl
                        unfold depTo; omega
                      · rfl
                  rw [this], fun i => by rw [X1.out.frozen hsz]; exact HF.out i, HX.out.trans X1.out, Nat.lt_of_lt_of_le hsz X1.out.size⟩
                case measure => simp [intOf]; omega
              · have hIk : ((I : Int) != (k : Int)) = true := by simp; omega
                have HT : Hid (tells g k y = true) := tells_iff.2 ⟨by rw [← hI]; exact h1, by rw [← hI]; exact h2⟩
                have HO : Hid (depAt g k y = 1 + max (dep g I) (dep g O)) := by unfold Hid depAt; rw [HT.out, if_pos rfl, ← hO, ← hI]
                have hOk : O < k := by rw [hO]; exact qOut_lt (by rw [← hI]; exact h1)
                have e2 := bits_andNot k I (by omega) (by omega)
                rw [show without k I = O from by rw [hO, hI]] at e2
                clear hI hO
                go_wp2_with fail
                refine HQ.out.mono ?_
                rintro e w1 ⟨rfl, x1⟩
                have X1 := Lib.hid (HX.out.trans x1)
                have HC1 : Hid (∀ i, i < p → w1.cell? ⟨w.heap.size, i, none⟩ = some (.int .i64 (depT g k y i : Nat))) := fun i hi => (x1.cell hsz).trans (HC.out i hi)
                have HF1 : Hid (∀ i, w1.frozen? ⟨w.heap.size, i, none⟩ = false) := fun i => (x1.frozen hsz).trans (HF.out i)
                have hsz1 : w.heap.size < w1.heap.size := Nat.lt_of_lt_of_le hsz x1.size
                have hq : depT g k y k = depTo g k y := by unfold depT; rw [if_neg (by omega), if_pos rfl]
                have hqI : depT g k y I = dep g I := by unfold depT; rw [if_pos (by omega)]
                have hqO : depT g k y O = dep g O := by unfold depT; rw [if_pos hOk]
                have ck := fun u => ((clip_ext w1 u).cell hsz1).trans (HC1.out k hlt)
                have cI := fun u => ((clip_ext w1 u).cell hsz1).trans (HC1.out I (by omega))
                have cO := fun u => ((clip_ext w1 u).cell hsz1).trans (HC1.out O (by omega))
                rw [hq] at ck
                rw [hqI] at cI
                rw [hqO] at cO
                have fk := fun u => ((clip_ext w1 u).frozen (x := w.heap.size) (o := k) hsz1).trans (HF1.out k)
                have hb1 : depTo g k y ≤ 99 := minTo_le _ _
                have hb2 := dep_le g I
                have hb3 := dep_le g O
                have HN : Hid (depTo g k (y + 1) = min (depTo g k y) (1 + max (dep g I) (dep g O))) := by unfold Hid; rw [← HO.out]; rfl
                obtain ⟨d0, hd0⟩ : ∃ d, d = depTo g k y := ⟨_, rfl⟩
                obtain ⟨d1, hd1⟩ : ∃ d, d = dep g I := ⟨_, rfl⟩
                obtain ⟨d2, hd2⟩ : ∃ d, d = dep g O := ⟨_, rfl⟩
                rw [← hd0] at ck hb1 HN
                rw [← hd1] at cI hb2 HN
                rw [← hd2] at cO hb3 HN
                clear x1 HC HF HX hsz hq hqI hqO hd0 hd1 hd2
                go_wp2
                refine wp_region_tail 20 (by kernel_rfl) (by kernel_rfl) (by kernel_rfl) ?_
                simp only [List.take_succ_cons, List.take_zero, List.drop_succ_cons, List.drop_zero]
                repeat (go_big_quiet_step (fail))
                all_goals
                 refine wpQuiet_nil ?_
                 rintro _ ⟨u, rfl⟩
                 have HW : ∀ z : Int, z = (depTo g k (y + 1) : Nat) → Hid (∀ i, i < p → ((clip w1 u).setCell ⟨w.heap.size, k, none⟩ (.int .i64 z)).cell? ⟨w.heap.size, i, none⟩ = some (.int .i64 (depT g k (y + 1) i : Nat))) := by
                   intro z hz i hi
                   by_cases h : i = k
                   · subst h
                     rw [World.cell?_setCell_same' _ _ _ (by rw [ck u]; rfl)]
                     have : depT g i (y + 1) i = depTo g i (y + 1) := by unfold depT; rw [if_neg (by omega), if_pos rfl]
                     rw [this, hz]
                   · rw [World.cell?_setCell_other _ _ _ _ (fun e => h (congrArg Addr.off e).symm), (clip_ext w1 u).cell hsz1, HC1.out i hi]
                     have : depT g k y i = depT g k (y + 1) i := by unfold depT; rw [if_neg h, if_neg h]
                     rw [this]
                 have HWF : Hid (∀ (z : Value) i, ((clip w1 u).setCell ⟨w.heap.size, k, none⟩ z).frozen? ⟨w.heap.size, i, none⟩ = false) := fun z i => by
                   rw [World.frozen?_setCell, (clip_ext w1 u).frozen hsz1]; exact HF1.out i
                 have HWX : Hid (∀ z : Value, Ext w ((clip w1 u).setCell ⟨w.heap.size, k, none⟩ z)) := fun z => (X1.out.trans (clip_ext w1 u)).setCell (Nat.le_refl _) _
                 have HWS : Hid (∀ z : Value, w.heap.size < ((clip w1 u).setCell ⟨w.heap.size, k, none⟩ z).heap.size) := fun z => by
                   have := (clip_ext w1 u).size
                   simp; omega
                 have HWH := Lib.hid HW
                 clear HW
                 gi_wp2
                 all_goals go_wp2
                 all_goals
                   go_roundw
                   case rel => exact ⟨y + 1, by omega, by go_num, HWH.out _ (by rw [HN.out]; omega), HWF.out _, HWX.out _, HWS.out _⟩
                   case measure => simp [intOf]; omega
          · obtain rfl : y = g.length := by omega
            go_wp2
            go_roundw
            case rel => exact ⟨k + 1, by omega, by omega, by go_num, fun i hi => by
              rw [HC.out i hi]
              have : depT g k g.length i = depU g (k + 1) i := by
                unfold depT depU
                by_cases h : i = k
                · subst h; rw [if_neg (by omega), if_pos rfl, if_pos (by omega), HD.out]
                · by_cases h' : i < k
                  · rw [if_pos h', if_pos (by omega)]
                  · rw [if_neg h', if_neg h, if_neg (by omega)]
              rw [this], HF, HX, hsz⟩
            case measure => simp [intOf]; omega
    · obtain rfl : k = p := by omega
      go_wp2
      go_ret
      refine ⟨_, rfl, ⟨some ⟨w.heap.size, 0, none⟩, k, by rw [depsOf_length, HP.out]; rfl, .inr ⟨w.heap.size, 0, rfl, hsz, by rw [depsOf_length, HP.out]; omega, fun i hi => ?_⟩⟩, fun b o s n c e => (by simp at e; omega), HX.out⟩
      rw [depsOf_length, HP.out] at hi
      rw [Nat.zero_add, HC.out i hi, depsOf_get g (by rw [HP.out]; exact hi)]
      unfold depU
      rw [if_pos hi]
end Go.Proofs.Ytpmammklklkheaa

/- The depth of a set: the reference and the program compute the same plain function. The condition: the list has at most 2^20 numbers. -/
namespace Go.Proofs.Ytpmammklklkheaa
open Go.RowKit
open BigFrame

/-- A set that is not empty and can be told. -/
def okD (g : List Int) (s : Int) : Bool := fits g s && decide (s ≠ 0) && decide (dep g s.toNat < 99)
theorem okD_iff {g : List Int} {s : Int} : okD g s = true ↔ ∃ k : Nat, s = k ∧ IsGraph g ∧ k < 2 ^ g.length ∧ k ≤ 4095 ∧ k ≠ 0 ∧ dep g k < 99 := by
  unfold okD
  rw [Bool.and_eq_true, Bool.and_eq_true, fits_iff, decide_eq_true_iff, decide_eq_true_iff]
  constructor
  · rintro ⟨⟨⟨k, rfl, hG, hk⟩, h0⟩, hd⟩
    exact ⟨k, rfl, hG, hk, by have := pow_le_12 hG.le; omega, by omega, hd⟩
  · rintro ⟨k, rfl, hG, hk, -, h0, hd⟩
    exact ⟨⟨⟨k, rfl, hG, hk⟩, by omega⟩, hd⟩
def askDepth (g : List Int) (s : Int) : Int × Bool := if okD g s then (((dep g s.toNat : Nat) : Int), true) else (0, false)

set_option maxHeartbeats 1000000 in
theorem l6qGiven_c (v : Value) (g : List Int) (s : Int) (w : World) (hv : Rd w v g) (hm : g.length ≤ 1048576) :
    Calls Try.prog 55 #[v, .int .i64 s] w fun e w' => ∃ v', e = .returned (listV v' (okD g s)) ∧ (okD g s = true → Rd w' v' (depsOf g) ∧ Fresh w v') ∧ Ext w w' := by
  obtain ⟨a, c, rfl⟩ := hv.form
  have HV := Lib.hid hv; clear hv
  have HM := Lib.hid hm
  cases h0 : graphIn g
  · have HK : Hid (okD g s = false) := by unfold Hid okD fits; rw [h0]; rfl
    rw [HK.out]
    go_enter Try.func55, Try.ntmps55
    go_wp2_with fail
    refine (graphInS_c _ _ _ HV.out HM.out).mono ?_
    rintro e w1 ⟨rfl, x1⟩
    have X1 := Lib.hid x1; clear x1
    go_wp2
    go_ret2
    exact ⟨_, rfl, fun h => (by cases h), X1.out.alloc _⟩
  · have hG := graphIn_iff.1 h0
    have hl := hG.le
    have HG := Lib.hid hG; clear hG
    cases hs : setB s g.length
    · have HK : Hid (okD g s = false) := by unfold Hid okD fits; rw [hs, Bool.and_false]; rfl
      rw [HK.out]
      go_enter Try.func55, Try.ntmps55
      go_wp2_with fail
      refine (graphInS_c _ _ _ HV.out HM.out).mono ?_
      rintro e w1 ⟨rfl, x1⟩
      have X1 := Lib.hid x1; clear x1
      go_wp2_with (go_at_call 64; refine (l2Set_c _ g _ _ (HV.out.ext X1.out) (by omega)).mono ?_; rintro e w' ⟨rfl, rfl⟩)
      go_ret2
      exact ⟨_, rfl, fun h => (by cases h), X1.out.alloc _⟩
    · obtain ⟨k, rfl, hk⟩ := setB_iff.1 hs
      have hk4 : k ≤ 4095 := by have := pow_le_12 hl; omega
      by_cases hz : k = 0
      · have HK : Hid (okD g k = false) := by unfold Hid okD; rw [hz]; simp
        rw [HK.out]
        have hz0 : ((k : Int) == 0) = true := by simp [hz]
        clear hz
        go_enter Try.func55, Try.ntmps55
        go_wp2_with fail
        refine (graphInS_c _ _ _ HV.out HM.out).mono ?_
        rintro e w1 ⟨rfl, x1⟩
        have X1 := Lib.hid x1; clear x1
        go_wp2_with (go_at_call 64; refine (l2Set_c _ g _ _ (HV.out.ext X1.out) (by omega)).mono ?_; rintro e w' ⟨rfl, rfl⟩)
        go_ret2
        exact ⟨_, rfl, fun h => (by cases h), X1.out.alloc _⟩
      · have HK : Hid (okD g k = decide (dep g k < 99)) := by unfold Hid okD fits; rw [h0, hs]; simp [hz]
        rw [HK.out]
        have hz0 : ((k : Int) == 0) = false := by simp [hz]
        obtain ⟨p, hp, hp1, hp2, hp3⟩ := pow_var g.length (by omega)
        have HP := Lib.hid hp
        have hkp : k < p := by rw [← hp]; exact hk
        have HGET := Lib.hid (depsOf_get g hk)
        clear hk hp
        go_enter Try.func55, Try.ntmps55
        go_wp2_with fail
        refine (graphInS_c _ _ _ HV.out HM.out).mono ?_
        rintro e w1 ⟨rfl, x1⟩
        have X1 := Lib.hid x1; clear x1
        go_wp2_with (go_at_call 64; refine (l2Set_c _ g _ _ (HV.out.ext X1.out) (by omega)).mono ?_; rintro e w' ⟨rfl, rfl⟩)
        refine (l6qDepths_c _ g _ (HV.out.ext X1.out) HG.out).mono ?_
        rintro e w2 ⟨vd, rfl, rd, fr, x2⟩
        have X2 := Lib.hid (X1.out.trans x2); clear x2
        have RD := Lib.hid rd; have FR := Lib.hid fr; clear fr
        obtain ⟨ad, cd, rfl⟩ := rd.form
        have hlen : (depsOf g).length = p := by rw [depsOf_length]; exact HP.out
        rw [hlen] at RD rd FR
        rw [hlen]
        obtain ⟨bd, od, rfl, -, hbd, hcd⟩ := rd.atI hkp
        have ck := fun u => hcd _ (clip_ext w2 u)
        rw [show getI (depsOf g) k = ((dep g k : Nat) : Int) from HGET.out] at ck
        have hdl := dep_le g k
        obtain ⟨d, hd⟩ : ∃ d, d = dep g k := ⟨_, rfl⟩
        rw [← hd] at ck hdl
        have HDD := Lib.hid hd
        clear rd hcd hlen hd
        go_wp2
        refine wp_region_ext (by kernel_rfl) (by kernel_rfl) ?_
        repeat (go_big_quiet_step (fail))
        refine wpQuiet_nil ?_
        rintro _ ⟨u, rfl⟩
        go_wp2
        go_ret2
        refine ⟨_, ?_, fun _ => ⟨RD.out.ext (clip_ext _ _), fun b o s n c e => Nat.le_trans X1.out.size (FR.out b o s n c e)⟩, X2.out.trans (clip_ext _ _)⟩
        unfold listV
        rw [← HDD.out, show decide (d < 99) = decide ((d : Int) < 99) from by simp; omega]
        rfl

set_option maxHeartbeats 1000000 in
theorem askDepthS_c (v : Value) (g : List Int) (s : Int) (w : World) (hv : Rd w v g) (hm : g.length ≤ 1048576) :
    Calls Try.prog 19 #[v, .int .i64 s] w fun e w' => e = .returned (pairV (askDepth g s)) ∧ Ext w w' := by
  obtain ⟨a, c, rfl⟩ := hv.form
  have HC := Lib.hid (l6qGiven_c _ g s w hv hm)
  clear hv hm
  cases h0 : okD g s
  · rw [show askDepth g s = (0, false) from by unfold askDepth; rw [h0]; rfl]
    go_enter Try.func19, Try.ntmps19
    go_wp2_with fail
    refine HC.out.mono ?_
    rintro e w1 ⟨v', rfl, -, x1⟩
    have X1 := Lib.hid x1; clear x1
    unfold listV
    rw [h0]
    go_wp2
    go_ret2
    exact ⟨rfl, X1.out⟩
  · obtain ⟨k, rfl, hG, hk, hk4, hz, hd⟩ := okD_iff.1 h0
    rw [show askDepth g k = (((dep g k : Nat) : Int), true) from by unfold askDepth; rw [h0]; rfl]
    have HGET := Lib.hid (depsOf_get g hk)
    have H0 := Lib.hid h0
    have hkl : k < (depsOf g).length := by rw [depsOf_length]; exact hk
    clear hG h0 hd hk
    go_enter Try.func19, Try.ntmps19
    go_wp2_with fail
    refine HC.out.mono ?_
    rintro e w1 ⟨v', rfl, hr, x1⟩
    have X1 := Lib.hid x1; clear x1
    have rd := (hr H0.out).1
    unfold listV
    rw [H0.out]
    obtain ⟨ad, cd, rfl⟩ := rd.form
    obtain ⟨bd, od, rfl, -, hbd, hcd⟩ := rd.atI hkl
    have ck := hcd _ (Ext.refl w1)
    rw [show getI (depsOf g) k = ((dep g k : Nat) : Int) from HGET.out] at ck
    obtain ⟨n, hn⟩ : ∃ n, n = (depsOf g).length := ⟨_, rfl⟩
    rw [← hn] at hkl ⊢
    clear hr rd hcd hn
    go_wp2
    go_ret2
    exact ⟨rfl, X1.out⟩

/-- The asker's depth, from its making on. -/
theorem depth_c {w0 w : World} {b : Nat} {v : Value} {g : List Int} (hv : Rd w0 v g) (hg : IsGraph g) (hb : w0.heap.size ≤ b) (s : Nat) (hs : s ≤ 4095) (h0 : s ≠ 0) (ha : AskOk w0 b v g w) :
    Calls Try.prog 54 #[.pointer (some ⟨b + 1, 0, none⟩), .int .i64 s] w fun e w' => e = .returned (.int .i64 (never (dep g s) : Nat)) ∧ AskOk w0 b v g w' ∧ Upd b w w' :=
  depth_of hv hg hb s s w (Nat.le_refl _) hs h0 ha
theorem after_c {w0 w : World} {b : Nat} {v : Value} {g : List Int} (hv : Rd w0 v g) (hg : IsGraph g) (hb : w0.heap.size ≤ b) (s x : Nat) (hs : s ≤ 4095) (hx : x < g.length) (ha : AskOk w0 b v g w) :
    Calls Try.prog 93 #[.pointer (some ⟨b + 1, 0, none⟩), .int .i64 s, .int .i64 x] w fun e w' => e = .returned (.int .i64 (aft g s x : Nat)) ∧ AskOk w0 b v g w' ∧ Upd b w w' :=
  after_of hv hg hb s x hs hx (fun t w ht h0 ha => depth_c hv hg hb t (by omega) h0 ha) w ha

set_option maxHeartbeats 1000000 in
theorem askDepthI_c (v : Value) (g : List Int) (s : Int) (w : World) (hv : Rd w v g) (hm : g.length ≤ 1048576) :
    Calls Try.prog 18 #[v, .int .i64 s] w fun e w' => e = .returned (pairV (askDepth g s)) ∧ Ext w w' := by
  obtain ⟨a, c, rfl⟩ := hv.form
  have HV := Lib.hid hv
  have HC := Lib.hid (codeFits_c _ g s w hv hm)
  clear hv hm
  cases h0 : fits g s
  · rw [show askDepth g s = (0, false) from by unfold askDepth okD; rw [h0]; rfl]
    rw [h0] at HC
    go_enter Try.func18, Try.ntmps18
    go_wp2_with (go_at_call 52; refine HC.out.mono ?_; rintro e w1 ⟨rfl, x1⟩)
    go_ret2
    exact ⟨rfl, by assumption⟩
  · obtain ⟨k, rfl, hG, hk⟩ := fits_iff.1 h0
    have hk4 : k ≤ 4095 := by have := pow_le_12 hG.le; omega
    rw [h0] at HC
    have HG := Lib.hid hG
    by_cases hz : k = 0
    · rw [show askDepth g k = (0, false) from by unfold askDepth okD; rw [hz]; simp]
      have hz0 : ((k : Int) == 0) = true := by simp [hz]
      clear h0 hG hk hz
      go_enter Try.func18, Try.ntmps18
      go_wp2_with (go_at_call 52; refine HC.out.mono ?_; rintro e w1 ⟨rfl, x1⟩)
      go_ret2
      exact ⟨rfl, by assumption⟩
    · have hz0 : ((k : Int) == 0) = false := by simp [hz]
      have hdl := dep_le g k
      by_cases hd : dep g k = 99
      · rw [show askDepth g k = (0, false) from by unfold askDepth okD; simp [hd]]
        have hn : ((never (dep g k) : Nat) : Int) = ((1048576 : Nat) : Int) := congrArg Nat.cast ((never_eq hdl).2 hd)
        have HN := Lib.hid hn
        clear h0 hG hk hn
        go_enter Try.func18, Try.ntmps18
        go_wp2_with fail
        refine HC.out.mono ?_
        rintro e w1 ⟨rfl, x1⟩
        have X1 := Lib.hid x1; clear x1
        go_wp2_with fail
        refine (askerOf_c _ g _ (HV.out.ext X1.out)).mono ?_
        rintro e w2 ⟨rfl, ia, x2⟩
        have A2 := Lib.hid (AskOk.of (g := g) ia x2); clear ia x2
        go_wp2_with fail
        refine (depth_c (HV.out.ext X1.out) HG.out (Nat.le_refl _) k hk4 hz A2.out).mono ?_
        rintro e w3 ⟨rfl, a3, -⟩
        rw [HN.out]
        have A3 := Lib.hid a3; clear a3
        go_wp2
        go_ret2
        exact ⟨rfl, X1.out.trans A3.out.ext⟩
      · have hds := dep_small hk4 hd
        rw [show askDepth g k = (((dep g k : Nat) : Int), true) from by unfold askDepth okD; rw [h0]; simp [hz]; omega]
        have hn : never (dep g k) = dep g k := by unfold never; rw [if_neg hd]
        have HN := Lib.hid hn
        obtain ⟨d, hdd⟩ : ∃ d, d = dep g k := ⟨_, rfl⟩
        have hb : ((d : Int) == 1048576) = false := by simp; omega
        have HDD := Lib.hid hdd
        rw [← hdd] at hds ⊢
        clear h0 hG hk hn hd hdl hdd
        go_enter Try.func18, Try.ntmps18
        go_wp2_with fail
        refine HC.out.mono ?_
        rintro e w1 ⟨rfl, x1⟩
        have X1 := Lib.hid x1; clear x1
        go_wp2_with fail
        refine (askerOf_c _ g _ (HV.out.ext X1.out)).mono ?_
        rintro e w2 ⟨rfl, ia, x2⟩
        have A2 := Lib.hid (AskOk.of (g := g) ia x2); clear ia x2
        go_wp2_with fail
        refine (depth_c (HV.out.ext X1.out) HG.out (Nat.le_refl _) k hk4 hz A2.out).mono ?_
        rintro e w3 ⟨rfl, a3, -⟩
        rw [HN.out, ← HDD.out]
        have A3 := Lib.hid a3; clear a3
        go_wp2
        go_ret2
        exact ⟨rfl, X1.out.trans A3.out.ext⟩
end Go.Proofs.Ytpmammklklkheaa

/- Whether a pool is clear: the reference and the program compute the same plain function. The condition: the list has at most 2^20 numbers. -/
namespace Go.Proofs.Ytpmammklklkheaa
open Go.RowKit
open BigFrame
attribute [local go_sem] Oper.semAt_some

def clearT (i s : Nat) (x : Int) : Bool := x.toNat.testBit i && (band x.toNat s == 0)
def clearI (tests : List Int) (d i k : Nat) : Bool := !(fewB d k && !k.testBit i) || tests.any (clearT i k)
def clearRow (tests : List Int) (d N i : Nat) : Bool := (List.range N).all (clearI tests d i)
def poolClear (items : Int) (tests : List Int) (d : Int) : Bool := poolIn items tests && inB 0 d 3 && (List.range items.toNat).all (clearRow tests d.toNat (2 ^ items.toNat))
theorem range_all_false {N k : Nat} {p : Nat → Bool} (hk : k < N) (h : p k = false) : (List.range N).all p = false := by
  rw [List.all_eq_false]; exact ⟨k, List.mem_range.2 hk, by rw [h]; decide⟩
theorem range_all_true {N : Nat} {p : Nat → Bool} (h : ∀ k, k < N → p k = true) : (List.range N).all p = true := by
  rw [List.all_eq_true]; exact fun k hk => h k (List.mem_range.1 hk)
theorem any_take_succ {xs : List Int} {p : Int → Bool} {k : Nat} (hk : k < xs.length) : (xs.take (k + 1)).any p = ((xs.take k).any p || p (getI xs k)) := by
  rw [List.take_succ_eq_append_getElem hk, List.any_append]
  simp [getI, hk]
theorem few_iff2 {d k : Nat} : fewB d k = true ↔ cnt k ≤ d := by simp [fewB]

end Go.Proofs.Ytpmammklklkheaa

/- The least set of wrong items with some answers: the reference and the program compute the same plain function. The condition: the list has at most 2^20 numbers. -/
namespace Go.Proofs.Ytpmammklklkheaa
open Go.RowKit
open BigFrame
attribute [local go_sem] Oper.semAt_some

/-- The least number below N with p, and whether there is one. -/
def leastP (p : Nat → Bool) (N : Nat) : Int × Bool :=
  match (List.range N).find? p with
  | some k => ((k : Nat), true)
  | none => (0, false)
theorem leastP_none {p : Nat → Bool} {N : Nat} (h : ∀ j, j < N → p j = false) : leastP p N = (0, false) := by
  unfold leastP
  rw [List.find?_eq_none.2 (fun x hx => by rw [h x (List.mem_range.1 hx)]; decide)]
theorem leastP_some {p : Nat → Bool} {N k : Nat} (hk : k < N) (h : ∀ j, j < k → p j = false) (hp : p k = true) : leastP p N = (((k : Nat) : Int), true) := by
  unfold leastP
  rw [show (List.range N).find? p = some k from by
    rw [List.find?_range_eq_some]
    exact ⟨hp, List.mem_range.2 hk, fun j hj => by rw [h j hj]; rfl⟩]
def goodB (tests : List Int) (d a k : Nat) : Bool := fewB d k && (answersOf tests k == a)
def poolDecode (items : Int) (tests : List Int) (d answers : Int) : Int × Bool :=
  if poolIn items tests && inB 0 d 3 && setB answers tests.length then leastP (goodB tests d.toNat answers.toNat) (2 ^ items.toNat) else (0, false)
theorem answersOf_small {n : Nat} {tests : List Int} (h : IsPool n tests) (m : Nat) : answersOf tests m ≤ 65535 := answersTo_small h.len
theorem few_iff {d k : Nat} : fewB d k = true ↔ cnt k ≤ d := by simp [fewB]

end Go.Proofs.Ytpmammklklkheaa
