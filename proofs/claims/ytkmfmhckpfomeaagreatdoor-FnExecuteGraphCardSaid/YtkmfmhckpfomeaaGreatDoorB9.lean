/- What the walks of this seat rest on, one part: plain facts, and contracts of the functions that they reach. Each states its own condition. -/
import Derived.Test.YtkmfmhckpfomeaaGreatDoorB6
import Derived.Test.YtkmfmhckpfomeaaGreatDoorB8
import Derived.Test.YtkmfmhckpfomeaaGreatDoorB7
set_option linter.all false
set_option linter.unusedSimpArgs false
set_option linter.unusedVariables false
/- The desk: a graph with a code; what become and redraw do. No condition. -/
namespace Go.Proofs.YtkmfmhckpfomeaaGreatDoor
open Go.RowKit
open BigFrame
attribute [local go_sem] Oper.semAt_some

/-- The desk at block b: v its graph, c its code. -/
structure Desk (w : World) (b : Nat) (v : Value) (c : Int) : Prop where
  graph : w.cell? ⟨b, 0, none⟩ = some v
  code : w.cell? ⟨b, 1, none⟩ = some (.int .i64 c)
  frozen : ∀ i, w.frozen? ⟨b, i, none⟩ = false
  lt : b < w.heap.size
theorem Desk.ext {w w' : World} {b : Nat} {v : Value} {c : Int} (h : Desk w b v c) (hx : Ext w w') : Desk w' b v c :=
  ⟨(hx.cell h.lt).trans h.graph, (hx.cell h.lt).trans h.code, fun i => (hx.frozen h.lt).trans (h.frozen i), Nat.lt_of_lt_of_le h.lt hx.size⟩
theorem Desk.setCode {w : World} {b : Nat} {v : Value} {c : Int} (h : Desk w b v c) (d : Int) : Desk (w.setCell ⟨b, 1, none⟩ (.int .i64 d)) b v d :=
  ⟨by rw [World.cell?_setCell_other _ _ _ _ (by simp)]; exact h.graph, World.cell?_setCell_same' _ _ _ (by rw [h.code]; rfl), fun i => by rw [World.frozen?_setCell]; exact h.frozen i, by simpa using h.lt⟩
theorem Desk.setGraph {w : World} {b : Nat} {v : Value} {c : Int} (h : Desk w b v c) (u : Value) : Desk (w.setCell ⟨b, 0, none⟩ u) b u c :=
  ⟨World.cell?_setCell_same' _ _ _ (by rw [h.graph]; rfl), by rw [World.cell?_setCell_other _ _ _ _ (by simp)]; exact h.code, fun i => by rw [World.frozen?_setCell]; exact h.frozen i, by simpa using h.lt⟩
theorem Upd.setCell (w : World) (b i : Nat) (u : Value) : Upd b w (w.setCell ⟨b, i, none⟩ u) :=
  ⟨rfl, rfl, rfl, by simp, fun k _ hne => by
    show (w.heap.modify b _)[k]? = _
    rw [Array.getElem?_modify, if_neg (fun e => hne e.symm)]⟩

theorem become_c (b : Nat) (v : Value) (c d : Int) (k : Bool) (w : World) (h : Desk w b v c) :
    Calls Tryz.prog 83 #[.pointer (some ⟨b, 0, none⟩), .int .i64 d, .bool k] w fun e w' => e = .returned (.tuple #[strV [111, 107], .bool k]) ∧ Desk w' b v (if k then d else c) ∧ Upd b w w' := by
  have H := Lib.hid h
  have c1 := h.code; have f1 := h.frozen 1
  clear h
  cases k
  · go_enter Tryz.func83, Tryz.ntmps83
    go_wp2
    go_ret2
    exact ⟨rfl, H.out, Upd.refl _ _⟩
  · go_enter Tryz.func83, Tryz.ntmps83
    go_wp2
    go_ret2
    exact ⟨rfl, H.out.setCode d, Upd.setCell _ _ _ _⟩
theorem redraw_c (b : Nat) (v : Value) (a : Option Addr) (n m : Nat) (c : Int) (k : Bool) (w : World) (h : Desk w b v c) :
    Calls Tryz.prog 76 #[.pointer (some ⟨b, 0, none⟩), .slice a n m, .bool k] w fun e w' => e = .returned (.tuple #[strV [111, 107], .bool k]) ∧ Desk w' b (if k then .slice a n m else v) c ∧ Upd b w w' := by
  have H := Lib.hid h
  have c1 := h.graph; have f1 := h.frozen 0
  clear h
  cases k
  · go_enter Tryz.func76, Tryz.ntmps76
    go_wp2
    go_ret2
    exact ⟨rfl, H.out, Upd.refl _ _⟩
  · go_enter Tryz.func76, Tryz.ntmps76
    go_wp2
    go_ret2
    exact ⟨rfl, H.out.setGraph _, Upd.setCell _ _ _ _⟩
end Go.Proofs.YtkmfmhckpfomeaaGreatDoor

/- The marks of all nodes: the reference and the program compute the same plain list. No condition. -/
namespace Go.Proofs.YtkmfmhckpfomeaaGreatDoor
open Go.RowKit
open BigFrame

def markN (g : List Int) (s i : Nat) : Nat := band (ballN g i) s
def marksTo (g : List Int) (s k : Nat) : List Int := (List.range k).map fun i => ((markN g s i : Nat) : Int)
theorem marksTo_succ (g : List Int) (s k : Nat) : marksTo g s (k + 1) = marksTo g s k ++ [((markN g s k : Nat) : Int)] := by simp [marksTo, List.range_succ]
theorem marksTo_length (g : List Int) (s k : Nat) : (marksTo g s k).length = k := by simp [marksTo]
theorem marksTo_get (g : List Int) (s k i : Nat) (h : i < k) : (marksTo g s k).getD i 0 = ((markN g s i : Nat) : Int) := by simp [marksTo, h]
theorem markN_small {g : List Int} (hg : IsGraph g) {i : Nat} (hi : i < g.length) (s : Nat) : markN g s i ≤ 4095 := Nat.le_trans Nat.and_le_left (ballN_small hg hi)

set_option maxHeartbeats 1000000 in
theorem l2Marks_c (v : Value) (g : List Int) (s : Nat) (w : World) (hv : Rd w v g) (hg : IsGraph g) (hs : s ≤ 4095) :
    Calls Tryz.prog 112 #[v, .int .i64 s] w fun e w' => ∃ v', e = .returned v' ∧ Own w' w.heap.size v' (marksTo g s g.length) ∧ Ext w w' := by
  obtain ⟨a, c, rfl⟩ := hv.form
  obtain ⟨W, hW⟩ : ∃ W, W = w.alloc (.cells #[] 3) := ⟨_, rfl⟩
  have ho0 : Own W w.heap.size (.slice (some ⟨w.heap.size, 0, none⟩) 0 0) [] := by rw [hW]; exact Own.lit w
  have hx0 : Ext w W := by rw [hW]; exact (Ext.refl _).alloc _
  have hs0 : w.heap.size < W.heap.size := by rw [hW]; simp
  have HW := Lib.hid hW; have HO0 := Lib.hid ho0; have HX0 := Lib.hid hx0; have HV := Lib.hid (hv.ext hx0)
  have HG := Lib.hid hg
  have hl := hg.le
  clear hv hW ho0 hx0 hg
  go_enter Tryz.func112, Tryz.ntmps112
  go_wp2_with fail
  rw [← HW.out]
  refine (l1Balls_c _ g _ HV.out HG.out).mono ?_
  rintro e w2 ⟨vb, rfl, ob, x2⟩
  have X2 := Lib.hid x2; clear x2
  rcases ob.get with ⟨rfl, hnil⟩ | ⟨gb, cb, rfl, hgb1, hgb2, hcb, hcells, -⟩
  · have h1 := congrArg List.length hnil
    rw [ballsTo_length, List.length_nil] at h1
    have h2 := HG.out.pos
    omega
  · rw [ballsTo_length] at hcb
    have HC : Hid (∀ i, i < g.length → w2.cell? ⟨gb, i, none⟩ = some (.int .i64 (ballN g i : Nat))) := fun i hi => by
      rw [hcells i (by rw [ballsTo_length]; exact hi), ballsTo_get _ _ _ hi]
    clear hcells ob
    rw [ballsTo_length]
    go_wp2
    go_loopw [5, 7] (fun o i wr => ∃ k : Nat, k ≤ g.length ∧ i = .int .i64 k ∧ Own wr w.heap.size o (marksTo g s k) ∧ Ext w wr ∧ Hid (∀ i, i < g.length → wr.cell? ⟨gb, i, none⟩ = some (.int .i64 (ballN g i : Nat))) ∧ Hid (o.ownBlock ≠ some gb) ∧ gb < wr.heap.size) (fun _ i _ => g.length - (intOf i).toNat)
    case atStart => exact ⟨0, Nat.zero_le _, rfl, HO0.out.ext X2.out, HX0.out.trans X2.out, HC, fun e => by simp [Value.ownBlock] at e; omega, hgb2⟩
    case round =>
      obtain ⟨k, hk, rfl, ho, hx, HC, HN, hgl⟩ := hrel
      have HO := Lib.hid ho; have HX := Lib.hid hx; clear ho hx
      by_cases hlt : k < g.length
      · have c1 := HC.out k hlt
        have hb4 := ballN_small HG.out hlt
        have e1 : bits .and .i64 (ballN g k : Int) (s : Int) = (markN g s k : Int) := bits_and (ballN g k) s (by omega) (by omega)
        go_wp2_with (at_builtin; refine wpList_append_int2 rfl _ _ rfl w.heap.size _ _ rfl (HO.out.alloc _) wr.heap.size _ rfl (one_cell _ _ _) (by rw [marksTo_length]; omega) (by simp; have := HX.out.size; omega) ?_; intro v' w3 ho3 hg3 hn3)
        have HX3 : Hid (Ext w w3) := (HO.out.alloc _).grew (HX.out.alloc _) hg3 (Nat.le_refl _)
        have HO3 : Hid (Own w3 w.heap.size v' (marksTo g s (k + 1))) := by rw [marksTo_succ]; exact ho3
        have HC3 : Hid (∀ i, i < g.length → w3.cell? ⟨gb, i, none⟩ = some (.int .i64 (ballN g i : Nat))) := fun i hi => by
          rw [← HC.out i hi]
          unfold World.cell?
          rw [hg3.block gb (by simp; omega) (fun e => HN.out e.symm), Below.heap_alloc _ _ _ hgl]
        have HN3 : Hid (v'.ownBlock ≠ some gb) := fun e => by
          rcases hn3 gb e with h | h
          · exact HN.out h
          · simp at h; omega
        have hgl3 : gb < w3.heap.size := Nat.lt_of_lt_of_le (by simp; omega) hg3.size
        clear ho3 hg3 hn3
        go_wp2
        go_roundw
        case rel => exact ⟨k + 1, by omega, by go_num, HO3.out, HX3.out, HC3, HN3, hgl3⟩
        case measure => simp [intOf]; omega
      · obtain rfl : k = g.length := by omega
        go_wp2
        go_ret
        exact ⟨_, rfl, HO.out, HX.out⟩

set_option maxHeartbeats 1000000 in
theorem marks_c (b : Nat) (v vb vf : Value) (vs : List Value) (g : List Int) (s : Nat) (w : World) (hb : IsBook w b g v vb vf vs) (hg : IsGraph g) (hs : s ≤ 4095) :
    Calls Tryz.prog 67 #[.pointer (some ⟨b, 0, none⟩), .int .i64 s] w fun e w' => ∃ v', e = .returned v' ∧ Own w' w.heap.size v' (marksTo g s g.length) ∧ Ext w w' := by
  obtain ⟨base, ob⟩ := hb.hb
  obtain ⟨gb, cb, rfl⟩ := ob.form' (ballsTo_length g g.length)
  have HB := Lib.hid (ob.rd)
  have c1 := hb.balls
  have HG := Lib.hid hg
  have hl := hg.le
  clear ob hb hg
  go_enter Tryz.func67, Tryz.ntmps67
  go_wp2
  clear c1
  go_loopw [5, 13] (fun o i wr => ∃ k : Nat, k ≤ g.length ∧ i = .int .i64 k ∧ Own wr w.heap.size o (marksTo g s k) ∧ Ext w wr) (fun _ i _ => g.length - (intOf i).toNat)
  case atStart => exact ⟨0, Nat.zero_le _, rfl, Own.nil _ _, Ext.refl _⟩
  case round =>
    obtain ⟨k, hk, rfl, ho, hx⟩ := hrel
    have HO := Lib.hid ho; have HX := Lib.hid hx; clear ho hx
    by_cases hlt : k < g.length
    · obtain ⟨bb, o, rfl, -, -, hc⟩ := HB.out.atI hlt
      have c1 := hc _ HX.out
      clear hc
      rw [show getI (ballsTo g g.length) k = ((ballN g k : Nat) : Int) from ballsTo_get _ _ _ hlt] at c1
      have hb4 := ballN_small HG.out hlt
      have e1 : bits .and .i64 (ballN g k : Int) (s : Int) = (markN g s k : Int) := bits_and (ballN g k) s (by omega) (by omega)
      go_wp2_with (at_builtin; refine wpList_append_int rfl _ _ rfl w.heap.size _ _ rfl (HO.out.alloc _) wr.heap.size _ rfl (one_cell _ _ _) (by rw [marksTo_length]; omega) (by simp; have := HX.out.size; omega) ?_; intro v' w3 ho3 hg3 hn3)
      have HX3 : Hid (Ext w w3) := (HO.out.alloc _).grew (HX.out.alloc _) hg3 (Nat.le_refl _)
      have HO3 : Hid (Own w3 w.heap.size v' (marksTo g s (k + 1))) := by rw [marksTo_succ]; exact ho3
      clear ho3 hg3 hn3
      go_wp2
      go_roundw
      case rel => exact ⟨k + 1, by omega, by go_num, HO3.out, HX3.out⟩
      case measure => simp [intOf]; omega
    · obtain rfl : k = g.length := by omega
      go_wp2
      go_ret
      exact ⟨_, rfl, HO.out, HX.out⟩
end Go.Proofs.YtkmfmhckpfomeaaGreatDoor

/- Whether a code bears wrong sensors: the reference and the program compute the same plain function. No condition. -/
namespace Go.Proofs.YtkmfmhckpfomeaaGreatDoor
open Go.RowKit
open BigFrame

def bearP (g : List Int) (s t i k : Nat) : Bool := decide (2 * t + 1 ≤ cnt (bxor (markN g s i) (markN g s k)))
def bearRow (g : List Int) (s t i : Nat) : Bool := decide (2 * t + 1 ≤ cnt (markN g s i)) && (List.range i).all (bearP g s t i)
def bearsN (g : List Int) (s t : Nat) : Bool := (List.range g.length).all (bearRow g s t)
theorem bears_false {N k : Nat} {p : Nat → Bool} (hk : k < N) (h : p k = false) : (List.range N).all p = false := by
  rw [List.all_eq_false]; exact ⟨k, List.mem_range.2 hk, by rw [h]; decide⟩
theorem bears_true {N : Nat} {p : Nat → Bool} (h : ∀ k, k < N → p k = true) : (List.range N).all p = true := by
  rw [List.all_eq_true]; exact fun k hk => h k (List.mem_range.1 hk)
theorem bxor_small {a b : Nat} (ha : a ≤ 4095) (hb : b ≤ 4095) : bxor a b ≤ 4095 := by
  have := bxor_lt (x := a) (y := b) (n := 12) (by omega) (by omega)
  omega

set_option maxHeartbeats 2000000 in
theorem l5Bears_c (v : Value) (g : List Int) (s t : Nat) (w : World) (hv : Rd w v g) (hg : IsGraph g) (hs : s ≤ 4095) (ht : t ≤ 4) :
    Calls Tryz.prog 191 #[v, .int .i64 s, .int .i64 t] w fun e w' => e = .returned (.bool (bearsN g s t)) ∧ Ext w w' := by
  obtain ⟨a, c, rfl⟩ := hv.form
  have HV := Lib.hid hv; have HG := Lib.hid hg
  have hl := hg.le
  clear hv hg
  go_enter Tryz.func191, Tryz.ntmps191
  go_wp2_with fail
  refine (l2Marks_c _ g s _ HV.out HG.out hs).mono ?_
  rintro e w1 ⟨vm, rfl, om, x1⟩
  obtain ⟨gm, cm, rfl⟩ := om.form' (marksTo_length g s g.length)
  have OM := Lib.hid om.rd; have X1 := Lib.hid x1
  clear om x1
  go_wp2
  go_loopw [8] (fun i wr => ∃ k : Nat, k ≤ g.length ∧ i = .int .i64 k ∧ Hid (∀ j, j < k → bearRow g s t j = true) ∧ Ext w1 wr) (fun i _ => g.length - (intOf i).toNat)
  case atStart => exact ⟨0, Nat.zero_le _, rfl, fun j hj => absurd hj (Nat.not_lt_zero j), Ext.refl _⟩
  case round =>
    obtain ⟨i, hi, rfl, HI, hx⟩ := hrel
    have HX := Lib.hid hx; clear hx
    by_cases hlt : i < g.length
    · obtain ⟨b, o, rfl, -, hbl, hc⟩ := OM.out.atI hlt
      have c1 := hc _ HX.out
      rw [show getI (marksTo g s g.length) i = ((markN g s i : Nat) : Int) from marksTo_get _ _ _ _ hlt] at c1
      have m4 := markN_small HG.out hlt s
      clear hc
      by_cases hz : cnt (markN g s i) < 2 * t + 1
      · have HZ : Hid (bearRow g s t i = false) := by unfold bearRow Hid; rw [decide_eq_false (by omega)]; rfl
        go_wp2_with (go_at_call 156; refine (l1Count_c _ (by omega) _).mono ?_; rintro e w' ⟨rfl, rfl⟩)
        go_ret
        exact ⟨ret_bool (bears_false hlt HZ.out).symm, X1.out.trans HX.out⟩
      · have HZ := Lib.hid hz
        go_wp2_with (go_at_call 156; refine (l1Count_c _ (by omega) _).mono ?_; rintro e w' ⟨rfl, rfl⟩)
        clear c1 hz
        obtain ⟨wo, rfl⟩ : ∃ wo : World, wo = wr := ⟨_, rfl⟩
        go_loopw [9] (fun q wr => ∃ k : Nat, k ≤ i ∧ q = .int .i64 k ∧ Hid (∀ j, j < k → bearP g s t i j = true) ∧ Ext w1 wr) (fun q _ => i - (intOf q).toNat)
        case atStart => exact ⟨0, Nat.zero_le _, rfl, fun j hj => absurd hj (Nat.not_lt_zero j), HX.out⟩
        case round =>
          clear HX
          obtain ⟨k, hk, rfl, HJ, hx⟩ := hrel
          have HX := Lib.hid hx; clear hx
          by_cases hlk : k < i
          · obtain ⟨b', o', he, -, -, hc⟩ := OM.out.atI hlt
            obtain ⟨rfl, rfl⟩ : b = b' ∧ o = o' := by simpa using he
            have c1 := fun u => hc _ (HX.out.trans (clip_ext wr u))
            rw [show getI (marksTo g s g.length) i = ((markN g s i : Nat) : Int) from marksTo_get _ _ _ _ hlt] at c1
            clear hc he
            obtain ⟨b', o', he, -, -, hc⟩ := OM.out.atI (k := k) (by omega)
            obtain ⟨rfl, rfl⟩ : b = b' ∧ o = o' := by simpa using he
            have c2 := fun u => hc _ (HX.out.trans (clip_ext wr u))
            rw [show getI (marksTo g s g.length) k = ((markN g s k : Nat) : Int) from marksTo_get _ _ _ _ (by omega)] at c2
            clear hc he
            have n4 := markN_small HG.out (show k < g.length by omega) s
            have e1 := bits_xor (markN g s i) (markN g s k) (by omega) (by omega)
            have x4 := bxor_small m4 n4
            have HL := Lib.hid fun w => l1Count_c (bxor (markN g s i) (markN g s k)) (by omega) w
            by_cases hy : cnt (bxor (markN g s i) (markN g s k)) < 2 * t + 1
            · have HY : Hid (bearP g s t i k = false) := by unfold bearP Hid; rw [decide_eq_false (by omega)]
              go_wp2
              refine wp_region_ext (by kernel_rfl) (by kernel_rfl) ?_
              repeat (go_big_quiet_step ((go_at_call 156; exact Calls.clip_same (HL.out _))))
              refine wpQuiet_nil ?_
              rintro _ ⟨u, rfl⟩
              go_wp2
              go_ret
              exact ⟨ret_bool (bears_false hlt (by unfold bearRow; rw [bears_false hlk HY.out, Bool.and_false])).symm, X1.out.trans (HX.out.trans (clip_ext _ _))⟩
            · have HY : Hid (bearP g s t i k = true) := by unfold bearP Hid; rw [decide_eq_true (by omega)]
              go_wp2
              refine wp_region_ext (by kernel_rfl) (by kernel_rfl) ?_
              repeat (go_big_quiet_step ((go_at_call 156; exact Calls.clip_same (HL.out _))))
              refine wpQuiet_nil ?_
              rintro _ ⟨u, rfl⟩
              go_wp2
              go_roundw
              case rel => exact ⟨k + 1, by omega, by go_num, fun j hj => by
                by_cases h : j = k
                · subst h; exact HY.out
                · exact HJ.out j (by omega), HX.out.trans (clip_ext _ _)⟩
              case measure => simp [intOf]; omega
          · obtain rfl : k = i := by omega
            go_wp2
            go_roundw
            case rel => exact ⟨k + 1, by omega, by go_num, fun j hj => by
              by_cases h : j = k
              · subst h; unfold bearRow; rw [decide_eq_true (by have := HZ.out; omega), bears_true HJ.out]; rfl
              · exact HI.out j (by omega), HX.out⟩
            case measure => simp [intOf]; omega
    · obtain rfl : i = g.length := by omega
      go_wp2
      go_ret
      exact ⟨ret_bool (bears_true HI.out).symm, X1.out.trans HX.out⟩

set_option maxHeartbeats 2000000 in
theorem bears_c (b : Nat) (v vb vf : Value) (vs : List Value) (g : List Int) (s t : Nat) (w : World) (hb : IsBook w b g v vb vf vs) (hg : IsGraph g) (hs : s ≤ 4095) (ht : t ≤ 4) :
    Calls Tryz.prog 178 #[.pointer (some ⟨b, 0, none⟩), .int .i64 s, .int .i64 t] w fun e w' => e = .returned (.bool (bearsN g s t)) ∧ Ext w w' := by
  have HB := Lib.hid hb; have HG := Lib.hid hg
  have hl := hg.le
  have hl1 := hg.pos
  clear hb hg
  go_enter Tryz.func178, Tryz.ntmps178
  go_wp2_with fail
  refine (marks_c b _ _ _ _ g s _ HB.out HG.out hs).mono ?_
  rintro e w1 ⟨vm, rfl, om, x1⟩
  have X1 := Lib.hid x1; clear x1
  rcases om.get with ⟨rfl, hnil⟩ | ⟨gm, cm, rfl, -, -, hcm, hcells, -⟩
  · have h1 := congrArg List.length hnil
    rw [marksTo_length, List.length_nil] at h1
    omega
  · rw [marksTo_length] at hcm
    have HC : Hid (∀ i, i < g.length → w1.cell? ⟨gm, i, none⟩ = some (.int .i64 (markN g s i : Nat))) := fun i hi => by
      rw [hcells i (by rw [marksTo_length]; exact hi), marksTo_get _ _ _ _ hi]
    clear hcells om
    rw [marksTo_length]
    go_wp2
    go_loop [17] (fun i => ∃ k : Nat, k ≤ g.length ∧ i = .int .i64 k ∧ Hid (∀ j, j < k → bearRow g s t j = true)) (fun i => g.length - (intOf i).toNat)
    case atStart => exact ⟨0, Nat.zero_le _, rfl, fun j hj => absurd hj (Nat.not_lt_zero j)⟩
    case round =>
      obtain ⟨i, hi, rfl, HI⟩ := hrel
      by_cases hlt : i < g.length
      · have c1 := HC.out i hlt
        have m4 := markN_small HG.out hlt s
        have HS := Lib.hid fun w => sizeC (markN g s i) m4 w
        by_cases hz : cnt (markN g s i) < 2 * t + 1
        · have HZ : Hid (bearRow g s t i = false) := by unfold bearRow Hid; rw [decide_eq_false (by omega)]; rfl
          go_wp2_with (go_at_call 65; refine (HS.out _).mono ?_; rintro e w' ⟨rfl, rfl⟩)
          go_ret
          exact ⟨ret_bool (bears_false hlt HZ.out).symm, X1.out⟩
        · have HZ := Lib.hid hz
          have hdf : decide ((cnt (markN g s i) : Int) < 2 * (t : Int) + 1) = false := by simp; omega
          go_wp2_with (go_at_call 65; refine (HS.out _).mono ?_; rintro e w' ⟨rfl, rfl⟩)
          try simp only [hdf]
          clear c1 hz hdf HS
          go_loop [32] (fun q => ∃ k : Nat, k ≤ i ∧ q = .int .i64 k ∧ Hid (∀ j, j < k → bearP g s t i j = true)) (fun q => i - (intOf q).toNat)
          case atStart => exact ⟨0, Nat.zero_le _, rfl, fun j hj => absurd hj (Nat.not_lt_zero j)⟩
          case round =>
            obtain ⟨k, hk, rfl, HJ⟩ := hrel
            by_cases hlk : k < i
            · have c2 := HC.out k (by omega)
              have n4 := markN_small HG.out (show k < g.length by omega) s
              have e1 := bits_xor (markN g s i) (markN g s k) (by omega) (by omega)
              have x4 := bxor_small m4 n4
              have HL := Lib.hid fun w => sizeC (bxor (markN g s i) (markN g s k)) x4 w
              by_cases hy : cnt (bxor (markN g s i) (markN g s k)) < 2 * t + 1
              · have HY : Hid (bearP g s t i k = false) := by unfold bearP Hid; rw [decide_eq_false (by omega)]
                go_wp2_with (go_at_call 65; refine (HL.out _).mono ?_; rintro e w' ⟨rfl, rfl⟩)
                go_ret
                exact ⟨ret_bool (bears_false hlt (by unfold bearRow; rw [bears_false hlk HY.out, Bool.and_false])).symm, X1.out⟩
              · have HY : Hid (bearP g s t i k = true) := by unfold bearP Hid; rw [decide_eq_true (by omega)]
                go_wp2_with (go_at_call 65; refine (HL.out _).mono ?_; rintro e w' ⟨rfl, rfl⟩)
                go_round
                case rel => exact ⟨k + 1, by omega, by go_num, fun j hj => by
                  by_cases h : j = k
                  · subst h; exact HY.out
                  · exact HJ.out j (by omega)⟩
                case measure => simp [intOf]; omega
            · obtain rfl : k = i := by omega
              go_wp2
              go_round
              case rel => exact ⟨k + 1, by omega, by go_num, fun j hj => by
                by_cases h : j = k
                · subst h; unfold bearRow; rw [decide_eq_true (by have := HZ.out; omega), bears_true HJ.out]; rfl
                · exact HI.out j (by omega)⟩
              case measure => simp [intOf]; omega
      · obtain rfl : i = g.length := by omega
        go_wp2
        go_ret
        exact ⟨ret_bool (bears_true HI.out).symm, X1.out⟩
end Go.Proofs.YtkmfmhckpfomeaaGreatDoor

/- SensorIn: the reference and the program compute the same plain function. The condition: the list has at most 2^20 numbers. -/
namespace Go.Proofs.YtkmfmhckpfomeaaGreatDoor
open Go.RowKit
open BigFrame

def sensorIn (g : List Int) (s t : Int) : Bool := fits g s && inB 0 t 4 && bearsN g s.toNat t.toNat

set_option maxHeartbeats 1000000 in
theorem sensorInS_c (v : Value) (g : List Int) (s t : Int) (w : World) (hv : Rd w v g) (hm : g.length ≤ 1048576) :
    Calls Tryz.prog 157 #[v, .int .i64 s, .int .i64 t] w fun e w' => e = .returned (.bool (sensorIn g s t)) ∧ Ext w w' := by
  obtain ⟨a, c, rfl⟩ := hv.form
  have HV := Lib.hid hv; clear hv
  have HM := Lib.hid hm
  cases h0 : graphIn g
  · rw [show sensorIn g s t = false from by unfold sensorIn fits; rw [h0]; rfl]
    go_enter Tryz.func157, Tryz.ntmps157
    go_wp2_with (go_at_call 110; refine (graphInS_c _ _ _ HV.out HM.out).mono ?_; rintro e w1 ⟨rfl, x1⟩)
    go_ret
    exact ⟨rfl, by assumption⟩
  · have hG := graphIn_iff.1 h0
    have hl := hG.le
    have HG := Lib.hid hG; clear hG
    cases hs : setB s g.length
    · rw [show sensorIn g s t = false from by unfold sensorIn fits; rw [h0, hs]; rfl]
      go_enter Tryz.func157, Tryz.ntmps157
      go_wp2_with fail
      refine (graphInS_c _ _ _ HV.out HM.out).mono ?_
      rintro e w1 ⟨rfl, x1⟩
      have X1 := Lib.hid x1; clear x1
      go_wp2_with (go_at_call 118; refine (l2Set_c _ g _ _ (HV.out.ext X1.out) (by omega)).mono ?_; rintro e w' ⟨rfl, rfl⟩)
      go_ret
      exact ⟨rfl, X1.out⟩
    · cases ht : inB 0 t 4
      · rw [show sensorIn g s t = false from by unfold sensorIn fits; rw [h0, hs, ht]; rfl]
        go_enter Tryz.func157, Tryz.ntmps157
        go_wp2_with fail
        refine (graphInS_c _ _ _ HV.out HM.out).mono ?_
        rintro e w1 ⟨rfl, x1⟩
        have X1 := Lib.hid x1; clear x1
        go_wp2_with (first | (go_at_call 118; refine (l2Set_c _ g _ _ (HV.out.ext X1.out) (by omega)).mono ?_; rintro e w' ⟨rfl, rfl⟩) | (go_at_call 37; refine (l6In_c _ _ _ _).mono ?_; rintro e w' ⟨rfl, rfl⟩))
        go_ret
        exact ⟨rfl, X1.out⟩
      · obtain ⟨k, rfl, hk⟩ := setB_iff.1 hs
        have hk4 : k ≤ 4095 := by have := pow_le_12 hl; omega
        obtain ⟨y, rfl⟩ : ∃ y : Nat, t = y := ⟨t.toNat, by have := inB_iff.1 ht; omega⟩
        have hy : y ≤ 4 := by have := inB_iff.1 ht; omega
        rw [show sensorIn g k y = bearsN g k y from by unfold sensorIn fits; rw [h0, hs, ht]; rfl]
        clear hk
        go_enter Tryz.func157, Tryz.ntmps157
        go_wp2_with fail
        refine (graphInS_c _ _ _ HV.out HM.out).mono ?_
        rintro e w1 ⟨rfl, x1⟩
        have X1 := Lib.hid x1; clear x1
        go_wp2_with (first | (go_at_call 118; refine (l2Set_c _ g _ _ (HV.out.ext X1.out) (by omega)).mono ?_; rintro e w' ⟨rfl, rfl⟩) | (go_at_call 37; refine (l6In_c _ _ _ _).mono ?_; rintro e w' ⟨rfl, rfl⟩) | (go_at_call 191; refine (l5Bears_c _ g k y _ (HV.out.ext X1.out) HG.out hk4 hy).mono ?_; rintro e w2 ⟨rfl, x2⟩))
        go_ret
        exact ⟨rfl, X1.out.trans (by assumption)⟩

set_option maxHeartbeats 1000000 in
theorem sensorInI_c (v : Value) (g : List Int) (s t : Int) (w : World) (hv : Rd w v g) (hm : g.length ≤ 1048576) :
    Calls Tryz.prog 139 #[v, .int .i64 s, .int .i64 t] w fun e w' => e = .returned (.bool (sensorIn g s t)) ∧ Ext w w' := by
  obtain ⟨a, c, rfl⟩ := hv.form
  have HV := Lib.hid hv; clear hv
  have HM := Lib.hid hm
  cases h0 : fits g s
  · rw [show sensorIn g s t = false from by unfold sensorIn; rw [h0]; rfl]
    go_enter Tryz.func139, Tryz.ntmps139
    go_wp2_with (go_at_call 135; refine (codeFits_c _ _ _ _ HV.out HM.out).mono ?_; rintro e w1 ⟨rfl, x1⟩)
    go_ret
    exact ⟨rfl, by assumption⟩
  · cases ht : inB 0 t 4
    · rw [show sensorIn g s t = false from by unfold sensorIn; rw [h0, ht]; rfl]
      go_enter Tryz.func139, Tryz.ntmps139
      go_wp2_with (first | (go_at_call 135; refine (codeFits_c _ _ _ _ HV.out HM.out).mono ?_; rintro e w1 ⟨rfl, x1⟩) | (go_at_call 177; refine (isBorne_c _ _).mono ?_; rintro e w' ⟨rfl, rfl⟩))
      go_ret
      exact ⟨rfl, by assumption⟩
    · obtain ⟨k, rfl, hG, hk⟩ := fits_iff.1 h0
      have hl := hG.le
      have HG := Lib.hid hG; clear hG
      have hk4 : k ≤ 4095 := by have := pow_le_12 hl; omega
      obtain ⟨y, rfl⟩ : ∃ y : Nat, t = y := ⟨t.toNat, by have := inB_iff.1 ht; omega⟩
      have hy : y ≤ 4 := by have := inB_iff.1 ht; omega
      rw [show sensorIn g k y = bearsN g k y from by unfold sensorIn; rw [h0, ht]; rfl]
      clear hk
      go_enter Tryz.func139, Tryz.ntmps139
      go_wp2_with fail
      refine (codeFits_c _ _ _ _ HV.out HM.out).mono ?_
      rintro e w1 ⟨rfl, x1⟩
      have X1 := Lib.hid x1; clear x1
      go_wp2_with (go_at_call 177; refine (isBorne_c _ _).mono ?_; rintro e w' ⟨rfl, rfl⟩)
      refine (bookOf_c _ g _ (HV.out.ext X1.out) HG.out).mono ?_
      rintro e w2 ⟨b, vb, vf, vs, rfl, -, hb, x2⟩
      have HB := Lib.hid hb; have X2 := Lib.hid (X1.out.trans x2); clear hb x2
      go_wp2_with (go_at_call 178; refine (bears_c b _ _ _ _ g k y _ HB.out HG.out hk4 hy).mono ?_; rintro e w3 ⟨rfl, x3⟩)
      go_ret
      exact ⟨rfl, X2.out.trans (by assumption)⟩
end Go.Proofs.YtkmfmhckpfomeaaGreatDoor

/- SensorMost: the reference and the program compute the same plain function. The condition: the list has at most 2^20 numbers. -/
namespace Go.Proofs.YtkmfmhckpfomeaaGreatDoor
open Go.RowKit
open BigFrame

/-- The greatest number below m that a code bears. -/
def mostFrom (g : List Int) (s : Int) : Nat → Int × Bool
  | 0 => (0, false)
  | m + 1 => if sensorIn g s (m : Nat) then (((m : Nat) : Int), true) else mostFrom g s m
def sensorMost (g : List Int) (s : Int) : Int × Bool := mostFrom g s 5

set_option maxHeartbeats 1000000 in
theorem sensorMostS_c (v : Value) (g : List Int) (s : Int) (w : World) (hv : Rd w v g) (hm : g.length ≤ 1048576) :
    Calls Tryz.prog 114 #[v, .int .i64 s] w fun e w' => e = .returned (pairV (sensorMost g s)) ∧ Ext w w' := by
  obtain ⟨a, c, rfl⟩ := hv.form
  have HV := Lib.hid hv; clear hv
  have HM := Lib.hid hm
  go_enter Tryz.func114, Tryz.ntmps114
  go_wp2
  go_loopw [6] (fun i wr => ∃ (m : Nat) (z : Int), m ≤ 5 ∧ z = (m : Int) - 1 ∧ i = .int .i64 z ∧ Hid (sensorMost g s = mostFrom g s m) ∧ Ext w wr) (fun i _ => (intOf i + 1).toNat)
  case atStart => exact ⟨5, 4, by omega, by omega, rfl, rfl, Ext.refl _⟩
  case round =>
    obtain ⟨m, z, hm5, hz, rfl, HS, hx⟩ := hrel
    have HX := Lib.hid hx; clear hx
    cases m with
    | zero =>
      obtain rfl : z = -1 := by omega
      clear hz
      go_wp2
      go_ret2
      exact ⟨ret_pair' HS.out.symm, HX.out⟩
    | succ m =>
      obtain rfl : z = (m : Int) := by omega
      clear hz
      have HC := Lib.hid (sensorInS_c (.slice a g.length c) g s m wr (HV.out.ext HX.out) HM.out)
      cases hb : sensorIn g s (m : Int)
      · have HB := Lib.hid hb
        go_wp2_with (go_at_call 157; refine HC.out.mono ?_; rintro e w1 ⟨rfl, x1⟩)
        go_roundw
        case rel => exact ⟨m, _, by omega, rfl, rfl, by unfold Hid; rw [HS.out, mostFrom, if_neg (by rw [HB.out]; decide)], HX.out.trans (by assumption)⟩
        case measure => simp [intOf]
      · have HB := Lib.hid hb
        go_wp2_with (go_at_call 157; refine HC.out.mono ?_; rintro e w1 ⟨rfl, x1⟩)
        go_ret2
        exact ⟨ret_pair' (by rw [HS.out, mostFrom, if_pos HB.out]), HX.out.trans (by assumption)⟩

set_option maxHeartbeats 1000000 in
theorem sensorMostI_c (v : Value) (g : List Int) (s : Int) (w : World) (hv : Rd w v g) (hm : g.length ≤ 1048576) :
    Calls Tryz.prog 99 #[v, .int .i64 s] w fun e w' => e = .returned (pairV (sensorMost g s)) ∧ Ext w w' := by
  obtain ⟨a, c, rfl⟩ := hv.form
  have HV := Lib.hid hv; clear hv
  have HM := Lib.hid hm
  go_enter Tryz.func99, Tryz.ntmps99
  go_wp2
  go_loopw [6] (fun i wr => ∃ (m : Nat) (z : Int), m ≤ 5 ∧ z = (m : Int) - 1 ∧ i = .int .i64 z ∧ Hid (sensorMost g s = mostFrom g s m) ∧ Ext w wr) (fun i _ => (intOf i + 1).toNat)
  case atStart => exact ⟨5, 4, by omega, by omega, rfl, rfl, Ext.refl _⟩
  case round =>
    obtain ⟨m, z, hm5, hz, rfl, HS, hx⟩ := hrel
    have HX := Lib.hid hx; clear hx
    cases m with
    | zero =>
      obtain rfl : z = -1 := by omega
      clear hz
      go_wp2
      go_ret2
      exact ⟨ret_pair' HS.out.symm, HX.out⟩
    | succ m =>
      obtain rfl : z = (m : Int) := by omega
      clear hz
      have HC := Lib.hid (sensorInI_c (.slice a g.length c) g s m wr (HV.out.ext HX.out) HM.out)
      cases hb : sensorIn g s (m : Int)
      · have HB := Lib.hid hb
        go_wp2_with (go_at_call 139; refine HC.out.mono ?_; rintro e w1 ⟨rfl, x1⟩)
        go_roundw
        case rel => exact ⟨m, _, by omega, rfl, rfl, by unfold Hid; rw [HS.out, mostFrom, if_neg (by rw [HB.out]; decide)], HX.out.trans (by assumption)⟩
        case measure => simp [intOf]
      · have HB := Lib.hid hb
        go_wp2_with (go_at_call 139; refine HC.out.mono ?_; rintro e w1 ⟨rfl, x1⟩)
        go_ret2
        exact ⟨ret_pair' (by rw [HS.out, mostFrom, if_pos HB.out]), HX.out.trans (by assumption)⟩
end Go.Proofs.YtkmfmhckpfomeaaGreatDoor
