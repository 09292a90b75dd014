/- What the walks of this seat rest on, one part: plain facts, and contracts of the functions that they reach. Each states its own condition. -/
import Derived.Test.YtkmfmhckpfomeaaGreatDoorB6
import Derived.Deep.RegionLaw
set_option linter.all false
set_option linter.unusedSimpArgs false
set_option linter.unusedVariables false
/- The distances of a node: the program computes the plain list. No condition. -/
namespace Go.Proofs.YtkmfmhckpfomeaaGreatDoor
open Go.RowKit
open BigFrame
attribute [local go_sem] Oper.semAt_some

/-! ### The plain function -/
/-- The neighbours of the nodes below k of a set. -/
def orTo (g : List Int) (edge : Nat) : Nat → Nat
  | 0 => 0
  | k + 1 => if edge.testBit k then bor (orTo g edge k) (gN g k) else orTo g edge k
/-- The number of steps for the nodes below k of a set. -/
def setTo (out : List Int) (edge : Nat) (steps : Nat) : Nat → List Int
  | 0 => out
  | k + 1 => if edge.testBit k then (setTo out edge steps k).set k (steps : Nat) else setTo out edge steps k
structure Bfs where
  seen : Nat
  edge : Nat
  steps : Nat
  out : List Int
def bfsNext (g : List Int) (b : Bfs) : Bfs :=
  ⟨bor b.seen b.edge, without (orTo g b.edge g.length) (bor b.seen b.edge), b.steps + 1, setTo b.out b.edge b.steps g.length⟩
def bfsAt (g : List Int) (from_ : Nat) : Nat → Bfs
  | 0 => ⟨0, 2 ^ from_, 0, List.replicate g.length 12⟩
  | k + 1 => bfsNext g (bfsAt g from_ k)
def distOf (g : List Int) (from_ : Nat) : List Int := (bfsAt g from_ 4096).out
theorem orTo_lt {g : List Int} (hg : IsGraph g) (edge : Nat) : ∀ k, orTo g edge k < 2 ^ g.length
  | 0 => by simp [orTo]; exact Nat.two_pow_pos _
  | k + 1 => by
    have h := orTo_lt hg edge k
    unfold orTo
    split
    · exact bor_lt h (hg.lt k)
    · exact h
theorem setTo_length (out : List Int) (edge steps : Nat) : ∀ k, (setTo out edge steps k).length = out.length
  | 0 => rfl
  | k + 1 => by
    have h := setTo_length out edge steps k
    unfold setTo
    split
    · rw [List.length_set, h]
    · exact h
theorem bfs_lt {g : List Int} (hg : IsGraph g) {x : Nat} (hx : x < g.length) : ∀ k, (bfsAt g x k).seen < 2 ^ g.length ∧ (bfsAt g x k).edge < 2 ^ g.length ∧ (bfsAt g x k).steps = k ∧ (bfsAt g x k).out.length = g.length
  | 0 => ⟨Nat.two_pow_pos _, Nat.pow_lt_pow_right (by omega) hx, rfl, by simp [bfsAt]⟩
  | k + 1 => by
    obtain ⟨h1, h2, h3, h4⟩ := bfs_lt hg hx k
    exact ⟨bor_lt h1 h2, without_lt (orTo_lt hg _ _), by show (bfsAt g x k).steps + 1 = k + 1; rw [h3], by show (setTo _ _ _ _).length = _; rw [setTo_length, h4]⟩
theorem bfs_apart (g : List Int) (x : Nat) : ∀ k, band (bfsAt g x k).seen (bfsAt g x k).edge = 0
  | 0 => by simp [bfsAt, band]
  | k + 1 => by
    apply Nat.eq_of_testBit_eq
    intro i
    rw [testBit_band]
    show ((bor _ _).testBit i && (without _ (bor _ _)).testBit i) = _
    rw [testBit_without]
    cases (bor (bfsAt g x k).seen (bfsAt g x k).edge).testBit i <;> simp
theorem bor_apart {a b : Nat} (h : band a b = 0) (hb : b ≠ 0) : a + 1 ≤ bor a b := by
  have h1 : a ≤ bor a b := Nat.left_le_or
  have h2 : a ≠ bor a b := by
    intro e
    apply hb
    apply Nat.eq_of_testBit_eq
    intro i
    have h3 := congrArg (fun n => n.testBit i) h
    have h4 := congrArg (fun n => n.testBit i) e
    simp only [testBit_band, testBit_bor, Nat.zero_testBit] at h3 h4 ⊢
    cases hbi : b.testBit i
    · rfl
    · rw [hbi, Bool.and_true] at h3
      rw [hbi, Bool.or_true] at h4
      rw [h3] at h4
      cases h4
  omega
theorem bfs_grows {g : List Int} {x : Nat} : ∀ k, (∀ j, j < k → (bfsAt g x j).edge ≠ 0) → k ≤ (bfsAt g x k).seen
  | 0, _ => Nat.zero_le _
  | k + 1, h => by
    have h1 := bfs_grows k (fun j hj => h j (by omega))
    have h2 := bor_apart (bfs_apart g x k) (h k (by omega))
    show k + 1 ≤ bor (bfsAt g x k).seen (bfsAt g x k).edge
    omega
theorem setTo_zero (out : List Int) (steps : Nat) : ∀ k, setTo out 0 steps k = out
  | 0 => rfl
  | k + 1 => by unfold setTo; rw [Nat.zero_testBit]; exact setTo_zero out steps k
theorem orTo_zero (g : List Int) : ∀ k, orTo g 0 k = 0
  | 0 => rfl
  | k + 1 => by unfold orTo; rw [Nat.zero_testBit]; exact orTo_zero g k
theorem bfs_stay {g : List Int} {x k : Nat} (h : (bfsAt g x k).edge = 0) : ∀ d, (bfsAt g x (k + d)).edge = 0 ∧ (bfsAt g x (k + d)).out = (bfsAt g x k).out
  | 0 => ⟨h, rfl⟩
  | d + 1 => by
    obtain ⟨h1, h2⟩ := bfs_stay h d
    constructor
    · show without (orTo g (bfsAt g x (k + d)).edge g.length) _ = 0
      rw [h1, orTo_zero]
      apply Nat.eq_of_testBit_eq
      intro i
      rw [testBit_without, Nat.zero_testBit]
      rfl
    · show setTo (bfsAt g x (k + d)).out (bfsAt g x (k + d)).edge _ _ = _
      rw [h1, setTo_zero, h2]
theorem dist_at {g : List Int} {x k : Nat} (hk : k ≤ 4096) (h : (bfsAt g x k).edge = 0) : distOf g x = (bfsAt g x k).out := by
  have := (bfs_stay h (4096 - k)).2
  rw [show k + (4096 - k) = 4096 from by omega] at this
  exact this

theorem Var.other' {w : World} {b c o : Nat} {v : Value} (h : Var w b v) (hne : b ≠ c) (u : Value) : Var (w.setCell ⟨c, o, none⟩ u) b v :=
  ⟨(World.cell?_setCell_other _ _ _ _ (fun h => hne (congrArg Addr.block h).symm)).trans h.cell, by simpa using h.frozen, by simpa using h.lt⟩
theorem leave_own {fn : Func} {p : Tmp} {v : Value} {xs ys : List Int} {w W : World} {tmps : Array Value} {ds : List Deferred} (hr : fn.results = #[.tmp p])
    (hp : tmps.getD p undef = v) (hm : Marks w.heap.size W ds) (ho : Own W w.heap.size v xs) (hx : Ext w W) (hxy : xs = ys) :
    LeavesInM Fence.wide 0 Tryz.prog fn tmps (fun e w' => ∃ v, e = .returned v ∧ Own w' w.heap.size v ys ∧ Ext w w') ds .returning W := by
  subst hxy
  refine leaves_marks (B := w.heap.size) v _ _ hm fun W' hW' => ⟨?_, v, rfl, ho.book hW', hx.book (Nat.le_refl _) hW'⟩
  rw [← hp]
  simp [results, hr]
theorem fill_next (n k : Nat) (h : k < n) : (List.replicate k (12 : Int) ++ List.replicate (n - k) 0).set k 12 = List.replicate (k + 1) 12 ++ List.replicate (n - (k + 1)) 0 := by
  rw [List.set_append_right _ _ (by simp)]
  rw [show n - k = (n - (k + 1)) + 1 from by omega, List.replicate_succ, List.length_replicate, Nat.sub_self, List.set_cons_zero, List.replicate_succ', List.append_assoc]
  rfl

set_option maxRecDepth 100000 in
set_option maxHeartbeats 2000000 in
theorem distances_c (v : Value) (g : List Int) (x : Nat) (w : World) (hv : Rd w v g) (hg : IsGraph g) (hx : x < g.length) :
    Calls Tryz.prog 64 #[v, .int .i64 x] w fun e w' => ∃ v', e = .returned v' ∧ Own w' w.heap.size v' (distOf g x) ∧ Ext w w' := by
  obtain ⟨a, c, rfl⟩ := hv.form
  have hl := hg.le
  have hl1 := hg.pos
  have HG := Lib.hid hg; clear hg
  obtain ⟨i0, hi, hz0, hz1, hz2⟩ := info_parts info_int
  obtain ⟨W, hW⟩ : ∃ W, W = w.alloc (.cells #[.slice a g.length c] 62) := ⟨_, rfl⟩
  have hx0 : Ext w W := by rw [hW]; exact (Ext.refl _).alloc _
  have v0 : Var W w.heap.size (.slice a g.length c) := by rw [hW]; exact Var.new _ _ _
  have hs0 : W.heap.size = w.heap.size + 1 := by rw [hW]; simp
  have HW := Lib.hid hW; have HX0 := Lib.hid hx0; have V0 := Lib.hid v0; have HV := Lib.hid hv
  have c0 := v0.cell
  rw [hW] at c0
  clear hW hx0 v0 hv
  refine calls_marks Tryz.func64 rfl ?_
  simp only [Tryz.ntmps64, List.size_toArray, List.length_cons, List.length_nil, Nat.reduceAdd, Nat.reduceSub, Array.replicate_succ, Array.replicate_zero, List.push_toArray, List.append_toArray, List.nil_append, List.cons_append]
  go_wp2_with (at_make; rw [← HW.out]; refine wpList_make_full _ rfl _ _ 29 rfl W.heap.size 3 i0 (.int .i64 0) 1 Tryz.underlying29 hi hz0 hz1 _ _ _ _ g.length rfl rfl rfl rfl (by rw [hz2]; omega) (by unfold maxLen; omega) (Nat.le_refl _) ?_; intro w1 hown hgr)
  have hrow : Own w1 (w.heap.size + 1) (.slice (some ⟨w.heap.size + 1, 0, none⟩) g.length g.length) (List.replicate g.length 0) := by
    rw [hs0] at hown
    have := hown
    simp only [Value.cells, Nat.mul_one, toList_madeCells_one] at this
    unfold Own; simpa using this
  have hx1 : Ext W w1 := (Ext.refl W).grown hgr (fun _ h => by cases h)
  have hs1 : w.heap.size + 2 ≤ w1.heap.size := by have := (hrow.lt (w.heap.size + 1) rfl).2; omega
  obtain ⟨W3, hW3⟩ : ∃ V, V = w1.alloc (.cells #[.slice (some ⟨w.heap.size + 1, 0, none⟩) g.length g.length] 29) := ⟨_, rfl⟩
  rw [← hW3]
  have hx3 : Ext w1 W3 := by rw [hW3]; exact (Ext.refl _).alloc _
  have vo : Var W3 w1.heap.size (.slice (some ⟨w.heap.size + 1, 0, none⟩) g.length g.length) := by rw [hW3]; exact Var.new _ _ _
  have hrow3 := hrow.ext hx3
  have vg := V0.out.ext (hx1.trans hx3)
  have hxw : Ext w W3 := HX0.out.trans (hx1.trans hx3)
  have HO := Lib.hid vo; have HR := Lib.hid hrow3; have HGV := Lib.hid vg; have HXW := Lib.hid hxw
  clear hown hgr hi hz0 hz1 hz2 hW3 hx3 hx1 hrow vo hrow3 vg hxw c0 hs0
  go_loopw [17] (fun i wr => ∃ k : Nat, k ≤ g.length ∧ i = .int .i64 k ∧ Own wr (w.heap.size + 1) (.slice (some ⟨w.heap.size + 1, 0, none⟩) g.length g.length) (List.replicate k 12 ++ List.replicate (g.length - k) 0) ∧ Var wr w.heap.size (.slice a g.length c) ∧ Var wr w1.heap.size (.slice (some ⟨w.heap.size + 1, 0, none⟩) g.length g.length) ∧ Ext w wr) (fun i _ => g.length - (intOf i).toNat)
  case atStart => exact ⟨0, Nat.zero_le _, rfl, HR.out, HGV.out, HO.out, HXW.out⟩
  case round =>
    clear HO HR HGV HXW
    obtain ⟨k, hk, rfl, ho, hvg, hvo, hxx⟩ := hrel
    have HR := Lib.hid ho; have HGV := Lib.hid hvg; have HO := Lib.hid hvo; have HX := Lib.hid hxx
    clear ho hvg hvo hxx
    have c5 := HO.out.cell
    by_cases hlt : k < g.length
    · obtain ⟨-, -, -, -, hcl, hf⟩ := HR.out.at
      replace hcl := hcl k hlt
      replace hf := hf k
      go_wp2
      go_roundw
      case rel => exact ⟨k + 1, by omega, by go_num, by have := HR.out.set k 12; rw [fill_next _ _ hlt] at this; exact this, HGV.out.other' (by omega) _, HO.out.other' (by omega) _, HX.out.setCell (by show w.heap.size ≤ w.heap.size + 1; omega) _⟩
      case measure => simp [intOf]; omega
    · obtain rfl : k = g.length := by omega
      have HR2 : Hid (Own wr (w.heap.size + 1) (.slice (some ⟨w.heap.size + 1, 0, none⟩) g.length g.length) (bfsAt g x 0).out) := by
        have := HR.out
        rw [Nat.sub_self, List.replicate_zero, List.append_nil] at this
        exact this
      obtain ⟨p, hp, hp1, hp2, hp3⟩ := pow_var x (by omega)
      have e0 : min x 64 = x := by omega
      have HP := Lib.hid hp; clear hp
      go_wp2
      refine wp_region_ext (by kernel_rfl) (by kernel_rfl) ?_
      repeat (go_big_quiet_step (fail))
      refine wpQuiet_nil ?_
      rintro _ ⟨u, rfl⟩
      go_wp2
      obtain ⟨wq, hwq⟩ : ∃ V, V = clip wr u := ⟨_, rfl⟩
      have hxq : Ext wr wq := by rw [hwq]; exact clip_ext _ _
      rw [← hwq]
      obtain ⟨Wm, hWm⟩ : ∃ V, V = wq.alloc (.cells #[.int .i64 0] 3) := ⟨_, rfl⟩
      rw [← hWm]
      have hxm : Ext wq Wm := by rw [hWm]; exact (Ext.refl _).alloc _
      have hv9 : Var Wm wq.heap.size (.int .i64 0) := by rw [hWm]; exact Var.new _ _ _
      have xrm := hxq.trans hxm
      have HRm := Lib.hid (HR2.out.ext xrm); have HGm := Lib.hid (HGV.out.ext xrm); have HOm := Lib.hid (HO.out.ext xrm); have HXm := Lib.hid (HX.out.trans xrm); have H9m := Lib.hid hv9
      have l9 : w1.heap.size < wq.heap.size := Nat.lt_of_lt_of_le HO.out.lt hxq.size
      have HP2 := Lib.hid hp1
      clear hwq hxq hWm hxm hv9 xrm HR HR2 HGV HO HX c5 hlt hk hp1 hp2 hp3 e0
      refine wp_loop_marks [7, 8, 9, 10, 11, 26, 27, 28, 29, 30, 31, 32, 33, 34, 35, 36, 37, 38, 39, 40, 41, 42, 43, 44, 45, 46, 47, 48, 49]
        (fun u ds wr => ∃ k B9 : Nat, u 7 = .int .i64 (bfsAt g x k).seen ∧ u 8 = .int .i64 (bfsAt g x k).edge ∧ u 9 = .pointer (some ⟨B9, 0, none⟩) ∧ Var wr B9 (.int .i64 k) ∧ (∀ j, j < k → (bfsAt g x j).edge ≠ 0) ∧
          Own wr (w.heap.size + 1) (.slice (some ⟨w.heap.size + 1, 0, none⟩) g.length g.length) (bfsAt g x k).out ∧ Var wr w.heap.size (.slice a g.length c) ∧ Var wr w1.heap.size (.slice (some ⟨w.heap.size + 1, 0, none⟩) g.length g.length) ∧ Ext w wr ∧ Marks w.heap.size wr ds ∧ w1.heap.size < B9)
        (fun u _ => 4097 - (intOf (u 7)).toNat) ⟨0, wq.heap.size, rfl, (by show Value.int .i64 (p : Int) = _; rw [← HP.out]; rfl), rfl, H9m.out, fun j hj => absurd hj (Nat.not_lt_zero j), HRm.out, HGm.out, HOm.out, HXm.out, Marks.nil _ _, l9⟩ ?_
      rintro u ds w2 ⟨k, B9, hu7, hu8, hu9, hv9, hj, ho, hvg, hvo, hxx, hmk, hl9⟩ K HK
      simp only [fillFrom, List.contains_cons, List.contains_nil, Nat.reduceBEq, Nat.reduceAdd, Bool.or_false, Bool.or_true, if_true, if_false, Bool.false_eq_true, hu7, hu8, hu9] at ⊢
      clear HRm HGm HOm HXm H9m l9
      have HU := Lib.hid hu7; have H9 := Lib.hid hv9; have HJ := Lib.hid hj; have HR := Lib.hid ho; have HGV := Lib.hid hvg; have HO := Lib.hid hvo; have HX := Lib.hid hxx; have HM := Lib.hid hmk
      clear hu7 hu8 hu9 hv9 hj ho hvg hvo hxx hmk
      obtain ⟨b1, b2, b3, b4⟩ := bfs_lt HG.out hx k
      have hk4 : k ≤ 4095 := by have h1 := bfs_grows k HJ.out; have h2 := pow_le_12 hl; omega
      have HNX : Hid (bfsAt g x (k + 1) = ⟨bor (bfsAt g x k).seen (bfsAt g x k).edge, without (orTo g (bfsAt g x k).edge g.length) (bor (bfsAt g x k).seen (bfsAt g x k).edge), (bfsAt g x k).steps + 1, setTo (bfsAt g x k).out (bfsAt g x k).edge (bfsAt g x k).steps g.length⟩) := rfl
      have HGR := Lib.hid (bor_apart (bfs_apart g x k))
      have HD := Lib.hid (fun h => dist_at (g := g) (x := x) (k := k) (by omega) h)
      have HJE := Lib.hid (fun (h : (bfsAt g x k).edge ≠ 0) j (hj : j < k + 1) => show (bfsAt g x j).edge ≠ 0 from by
        by_cases e : j = k
        · rw [e]; exact h
        · exact HJ.out j (by omega))
      generalize hS : (bfsAt g x k).seen = S at *
      generalize hE : (bfsAt g x k).edge = E at *
      generalize hO : (bfsAt g x k).out = out at *
      rw [b3] at HNX
      have HS := Lib.hid hS; have HE := Lib.hid hE; have HOU := Lib.hid hO; have B3 := Lib.hid b3
      have hS4 : S ≤ 4095 := by have := pow_le_12 hl; omega
      have hE4 : E ≤ 4095 := by have := pow_le_12 hl; omega
      clear hS hE hO b3
      by_cases hz : E = 0
      · subst hz
        have c5 := HO.out.cell
        go_wp2
        exact leave_own (v := .slice (some ⟨w.heap.size + 1, 0, none⟩) g.length g.length) rfl rfl HM.out (HR.out.mono (by omega)) HX.out (HD.out trivial).symm
      · have hz' : ((E : Nat) : Int) ≠ 0 := by omega
        have HZ := Lib.hid hz
        have e1 := bits_or S E (by omega) (by omega)
        obtain ⟨W2, hW2, hx2, hsz2, d0, d1, e0, e1'⟩ := two_new w2 (.int .i64 0) (.int .i64 E) 3 3
        clear hz
        go_wp2_with (go_at_call 62; refine (nodes_c _ _).mono ?_; rintro e w' ⟨rfl, rfl⟩)
        rw [← hW2]
        have HX2 := Lib.hid hx2
        have l2 : w2.heap.size + 2 ≤ W2.heap.size := by omega
        have HVN : Hid (Var W2 w2.heap.size (.int .i64 0)) := ⟨d0, e0, by omega⟩
        have HVE : Hid (Var W2 (w2.heap.size + 1) (.int .i64 E)) := ⟨d1, e1', by omega⟩
        have hlr : w.heap.size + 1 < w2.heap.size := (HR.out.lt _ rfl).2
        have hlo : w1.heap.size < w2.heap.size := HO.out.lt
        have hl99 : B9 < w2.heap.size := H9.out.lt
        clear hx2 hW2 hsz2 d0 d1 e0 e1'
        refine wp_range (nodes_iter (w2.heap.size + 1) E g.length b2 (by omega)) rfl nodes_enters rfl
          (fun y W' => Own W' (w.heap.size + 1) (.slice (some ⟨w.heap.size + 1, 0, none⟩) g.length g.length) (setTo out E k y) ∧ Var W' w2.heap.size (.int .i64 (orTo g E y : Nat)) ∧ Var W' (w2.heap.size + 1) (.int .i64 E) ∧ Var W' B9 (.int .i64 k) ∧
            Var W' w.heap.size (.slice a g.length c) ∧ Var W' w1.heap.size (.slice (some ⟨w.heap.size + 1, 0, none⟩) g.length g.length) ∧ Ext w W' ∧ Marks w.heap.size W' ds ∧ W2.heap.size ≤ W'.heap.size)
          (fun _ _ => False)
          ?hI ?hIx ?hKi ?h0 ?hskip ?hround ?hdone ?hstop
        case hI =>
          rintro j W' W'' hB ⟨h1, h2, h3, h4, h5, h6, h7, h8, h9⟩
          exact ⟨h1.book hB, h2.book hB (by omega), h3.book hB (by omega), h4.book hB (by omega), h5.book hB (by omega), h6.book hB (by omega), h7.book (by omega) hB, h8.book hB (fun k hk => by have := HM.out.lt k hk; omega), Nat.le_trans h9 hB.size⟩
        case hIx => exact fun _ _ _ _ h => h
        case hKi =>
          rintro j W' ⟨_, _, h3, _⟩
          exact h3.cell
        case h0 => exact ⟨HR.out.ext HX2.out, HVN.out, HVE.out, H9.out.ext HX2.out, HGV.out.ext HX2.out, HO.out.ext HX2.out, HX.out.trans HX2.out, HM.out.ext HX2.out, Nat.le_refl _⟩
        case hskip =>
          rintro j W' hj hp ⟨h1, h2, h3⟩
          exact ⟨by unfold setTo; rw [hp]; exact h1, by unfold orTo; rw [hp]; exact h2, h3⟩
        case hround =>
          rintro l j W' hj hp ⟨h1, h2, h3, h4, h5, h6, h7, h8, h9⟩ hsz
          gi_wp2
          refine ⟨KeepsFrom.refl _ _, fun W'' hB => ?_⟩
          have H1 : Hid (Own W'' (w.heap.size + 1) (.slice (some ⟨w.heap.size + 1, 0, none⟩) g.length g.length) (setTo out E k j)) := h1.book hB
          have H2 : Hid (Var W'' w2.heap.size (.int .i64 (orTo g E j : Nat))) := h2.book hB (by omega)
          have H3 : Hid (Var W'' (w2.heap.size + 1) (.int .i64 E)) := h3.book hB (by omega)
          have H4 : Hid (Var W'' B9 (.int .i64 k)) := h4.book hB (by omega)
          have H5 : Hid (Var W'' w.heap.size (.slice a g.length c)) := h5.book hB (by omega)
          have H6 : Hid (Var W'' w1.heap.size (.slice (some ⟨w.heap.size + 1, 0, none⟩) g.length g.length)) := h6.book hB (by omega)
          have H7 : Hid (Ext w W'') := h7.book (by omega) hB
          have H8 : Hid (Marks w.heap.size W'' ds) := h8.book hB (fun k hk => by have := HM.out.lt k hk; omega)
          have l9 : W2.heap.size ≤ W''.heap.size := Nat.le_trans h9 hB.size
          have HPJ := Lib.hid hp
          clear h1 h2 h3 h4 h5 h6 h7 h8 h9 hB hp hsz
          have c5 := H6.out.cell
          have c9 := H4.out.cell
          obtain ⟨-, -, -, -, hcl, hf⟩ := H1.out.at
          replace hcl := hcl j hj
          replace hf := hf j
          gi_wp2
          obtain ⟨Ws, hWs⟩ : ∃ V, V = W''.setCell ⟨w.heap.size + 1, j, none⟩ (.int .i64 k) := ⟨_, rfl⟩
          rw [← hWs]
          have R1 := H1.out.set j (k : Nat)
          rw [← hWs] at R1
          have R2 := H2.out.other' (c := w.heap.size + 1) (o := j) (by omega) (.int .i64 k)
          have R3 := H3.out.other' (c := w.heap.size + 1) (o := j) (by omega) (.int .i64 k)
          have R4 := H4.out.other' (c := w.heap.size + 1) (o := j) (by omega) (.int .i64 k)
          have R5 := H5.out.other' (c := w.heap.size + 1) (o := j) (by omega) (.int .i64 k)
          have R6 := H6.out.other' (c := w.heap.size + 1) (o := j) (by omega) (.int .i64 k)
          have R7 := H7.out.setCell (p := ⟨w.heap.size + 1, j, none⟩) (by show w.heap.size ≤ w.heap.size + 1; omega) (.int .i64 k)
          have R8 := H8.out.setCell ⟨w.heap.size + 1, j, none⟩ (.int .i64 k)
          have RK : KeepsFrom W2.heap.size W'' Ws := by rw [hWs]; exact KeepsFrom.setCell' _ _ _ _
          have l10 : Ws.heap.size = W''.heap.size := by rw [hWs]; simp
          rw [← hWs] at R2 R3 R4 R5 R6 R7 R8
          obtain ⟨b, o, rfl, -, hbl, hc⟩ := HV.out.atI hj
          have kg := fun u => hc _ (R7.trans (clip_ext Ws u))
          rw [HG.out.row j hj] at kg
          have k10 := fun u => (R2.ext (clip_ext Ws u)).cell
          have k2 := fun u => (R5.ext (clip_ext Ws u)).cell
          have hg4 := HG.out.small j
          have ho4 : orTo g E j ≤ 4095 := by have h1 := orTo_lt HG.out E j; have h2 := pow_le_12 hl; omega
          have e2 := bits_or (orTo g E j) (gN g j) (by omega) (by omega)
          have P1 := Lib.hid R1; have P2 := Lib.hid R2; have P3 := Lib.hid R3; have P4 := Lib.hid R4; have P5 := Lib.hid R5; have P6 := Lib.hid R6; have P7 := Lib.hid R7; have P8 := Lib.hid R8; have PK := Lib.hid RK
          clear R1 R2 R3 R4 R5 R6 R7 R8 RK hc hWs hcl hf c5 c9
          refine wpIn_quiet_tail (ro := some l) (C := fun w' => ∃ u, w' = clip Ws u) 6 (by kernel_rfl) (by kernel_rfl) (by kernel_rfl) ⟨_, (clip_of (Ext.refl Ws).drew).symm⟩ ?_
          simp only [List.take_succ_cons, List.take_zero, List.drop_succ_cons, List.drop_zero]
          repeat (go_big_quiet_step (fail))
          refine wpQuiet_nil ?_
          rintro _ ⟨u', rfl⟩
          have xc := Lib.hid (clip_ext Ws u')
          obtain ⟨q1, q2, -⟩ := P2.out.ext xc.out
          gi_wp2
          refine ⟨PK.out.trans ((KeepsFrom.of_ext xc.out).trans (KeepsFrom.setCell' _ _ _ _)), ?_, ?_, (P3.out.ext xc.out).other (by omega) _, (P4.out.ext xc.out).other (by omega) _, (P5.out.ext xc.out).other (by omega) _, (P6.out.ext xc.out).other (by omega) _, (P7.out.trans xc.out).setCell (by show w.heap.size ≤ w2.heap.size; omega) _, (P8.out.ext xc.out).setCell _ _, ?_⟩
          · rw [show setTo out E k (j + 1) = (setTo out E k j).set j (k : Nat) from by rw [setTo, if_pos HPJ.out]]
            exact (P1.out.ext xc.out).kept (grownBy_setCell' _ _ _) (.inr (by simp [Value.ownBlock]; omega))
          · rw [show orTo g E (j + 1) = bor (orTo g E j) (gN g j) from by rw [orTo, if_pos HPJ.out]]
            exact (P2.out.ext xc.out).set _
          · have := xc.out.size; simp; omega
        case hdone =>
          rintro D' W' hD ⟨h1, h2, h3, h4, h5, h6, h7, h8, h9⟩ hDD
          have H1 := Lib.hid h1; have H5 := Lib.hid h5; have H6 := Lib.hid h6; have H7 := Lib.hid h7; have H8 := Lib.hid h8; have HDD := Lib.hid hDD
          have c10 := h2.cell
          have c9 := h4.cell
          clear h1 h2 h3 h4 h5 h6 h7 h8 hDD
          have ho4 : orTo g E g.length ≤ 4095 := by have h1 := orTo_lt HG.out E g.length; have h2 := pow_le_12 hl; omega
          have hb4 : bor S E ≤ 4095 := by have h1 := bor_lt b1 b2; have h2 := pow_le_12 hl; omega
          have e2 := bits_andNot (orTo g E g.length) (bor S E) (by omega) (by omega)
          go_wp2
          have xa : Ext W' (W'.alloc (.cells #[.int .i64 ((k : Int) + 1)] 3)) := (Ext.refl _).alloc _
          refine HK.out _ _ _ rfl ⟨k + 1, W'.heap.size, ?_, ?_, rfl, Var.new _ _ _, HJE.out HZ.out, ?_, H5.out.ext xa, H6.out.ext xa, H7.out.trans xa, (H8.out.cons (n := W2.heap.size) (fun k hk => by have := HM.out.lt k hk; omega) hD (Nat.le_trans ((HX.out.trans HX2.out).size) hD) HDD.out).ext xa, Nat.lt_of_lt_of_le hlo (by omega)⟩ ?_
          · rw [HNX.out]; rfl
          · rw [HNX.out]; rfl
          · rw [HNX.out]; exact H1.out.ext xa
          · have hgr := HGR.out HZ.out
            simp [intOf, HU.out]
            omega
        case hstop => exact fun _ _ _ _ h _ => h.elim
end Go.Proofs.YtkmfmhckpfomeaaGreatDoor

/- The book of a graph: its balls and its distances. No condition. -/
namespace Go.Proofs.YtkmfmhckpfomeaaGreatDoor
open Go.RowKit
open BigFrame
attribute [local go_sem] Oper.semAt_some

theorem info_row : (Tryz.prog.info? 29).map (fun i => (i.zero, i.size, i.bytes)) = some (some (.slice none 0 0), 1, 24) := by kernel_rfl
theorem three_cells {W : World} {b : Nat} {v u x : Value} {t : TypeId} (h : W.heap[b]? = some (.cells #[v, u, x] t (0, 0))) :
    W.cell? ⟨b, 0, none⟩ = some v ∧ W.cell? ⟨b, 1, none⟩ = some u ∧ W.cell? ⟨b, 2, none⟩ = some x ∧ ∀ i, W.frozen? ⟨b, i, none⟩ = false := by
  refine ⟨?_, ?_, ?_, fun i => ?_⟩ <;> simp [World.cell?, World.frozen?, h]
/-- A row of rows of the call's own. -/
def OwnRows (w : World) (base : Nat) (v : Value) (vs : List Value) : Prop := w.ownsRow base 29 1 v vs.length vs
theorem step_append_row {ops : Array Oper} {o : Oper} {a : Act} {K : Act → World → Prop} {Q : Exit → Act → World → Prop} {E : Prop} {w : World} (hgd : o.guard = none) (s x : Operand)
    (ho : o.op = .call { callee := .builtin .append, args := #[s, x], argTypes := #[70, 70] })
    (base : Nat) (v : Value) (vs : List Value) (hs : a.eval s = v) (hown : OwnRows w base v vs) (g : Nat) (y : Value) (hy : y.oneCell' = true) (hx : a.eval x = .slice (some ⟨g, 0, none⟩) 1 1)
    (hc : w.cell? ⟨g, 0, none⟩ = some y) (hn : vs.length ≤ 1048576) (hb : base ≤ w.heap.size)
    (h : ∀ g' cap w', OwnRows w' base (.slice (some ⟨g', 0, none⟩) (vs.length + 1) cap) (vs ++ [y]) → w.grownBy w' v.ownBlock → K (a.put o.dst (.slice (some ⟨g', 0, none⟩) (vs.length + 1) cap)) w') :
    if Region.wanted o (yielded ops a.tmps) = true then Oper.wp Tryz.prog o a w K Q else E := by
  obtain ⟨i0, hi, hz0, hz1, hz2⟩ := info_parts info_row
  refine step_append_lies w hgd s x 70 ho base 29 i0 (.slice none 0 0) 1 24 Tryz.underlying70 hi hz0 hz1 hz2 rfl (by decide) v vs.length _ hs hown ⟨g, 0, none⟩ 1 1 [y] hx rfl ?_ (fun u hu => by simp at hu; subst hu; exact hy) (by omega) (by unfold maxLen; omega) (by omega) hb _ rfl ?_
  · intro j u hu
    cases j with
    | zero => simp at hu; subst hu; exact hc
    | succ j => simp at hu
  · intro g' cap w' h1 h2 _ _
    refine h g' cap w' ?_ h2
    unfold OwnRows; simpa using h1
theorem OwnRows.ext {w w' : World} {base : Nat} {v : Value} {vs : List Value} (h : OwnRows w base v vs) (hx : Ext w w') : OwnRows w' base v vs := by
  obtain ⟨h1, h2⟩ := h
  refine ⟨h1, ?_⟩
  rcases h2 with h2 | ⟨g, cap, cur, hv, hg, hh, r⟩
  · exact .inl h2
  · exact .inr ⟨g, cap, cur, hv, hg, (hx.block (Array.getElem?_eq_some_iff.1 hh).1).trans hh, r⟩
/-- A row of numbers and a row of rows lie apart. -/
theorem Own.apart {w : World} {base base' : Nat} {v v' : Value} {xs : List Int} {vs : List Value} (h : Own w base v xs) (h' : OwnRows w base' v' vs) : v.ownBlock = none ∨ v.ownBlock ≠ v'.ownBlock := by
  rcases h.2 with ⟨rfl, _⟩ | ⟨g, cap, cur, rfl, _, hh, _⟩
  · exact .inl rfl
  · rcases h'.2 with ⟨rfl, _⟩ | ⟨g', cap', cur', rfl, _, hh', _⟩
    · exact .inr (by simp [Value.ownBlock])
    · refine .inr fun e => ?_
      simp only [Value.ownBlock, Option.some.injEq] at e
      subst e
      rw [hh] at hh'
      simp at hh'
structure IsBook (w : World) (b : Nat) (g : List Int) (v vb vf : Value) (vs : List Value) : Prop where
  graph : w.cell? ⟨b, 0, none⟩ = some v
  balls : w.cell? ⟨b, 1, none⟩ = some vb
  far : w.cell? ⟨b, 2, none⟩ = some vf
  lt : b < w.heap.size
  hb : ∃ base, Own w base vb (ballsTo g g.length)
  hf : ∃ base, OwnRows w base vf vs
  len : vs.length = g.length
  row : ∀ i, i < g.length → ∃ base, Own w base (vs.getD i undef) (distOf g i)
theorem IsBook.ext {w w' : World} {b : Nat} {g : List Int} {v vb vf : Value} {vs : List Value} (h : IsBook w b g v vb vf vs) (hx : Ext w w') : IsBook w' b g v vb vf vs :=
  ⟨(hx.cell h.lt).trans h.graph, (hx.cell h.lt).trans h.balls, (hx.cell h.lt).trans h.far, Nat.lt_of_lt_of_le h.lt hx.size, h.hb.imp fun _ h => h.ext hx, h.hf.imp fun _ h => h.ext hx, h.len, fun i hi => (h.row i hi).imp fun _ h => h.ext hx⟩

theorem grownBy_set (w : World) (p : Addr) (u : Value) : w.grownBy (w.setCell p u) (some p.block) := by
  refine ⟨rfl, rfl, rfl, by simp, fun k _ hne => ?_⟩
  show (w.heap.modify p.block _)[k]? = _
  rw [Array.getElem?_modify, if_neg (fun e => hne (by rw [e]))]
theorem dist_length {g : List Int} (hg : IsGraph g) {x : Nat} (hx : x < g.length) : (distOf g x).length = g.length := (bfs_lt hg hx 4096).2.2.2
theorem Own.form' {w : World} {base : Nat} {v : Value} {xs : List Int} {n : Nat} (h : Own w base v xs) (hn : xs.length = n) : ∃ g c, v = .slice g n c := by
  rcases h.get with ⟨rfl, h0⟩ | ⟨g, c, rfl, _⟩
  · subst h0; exact ⟨none, 0, by rw [← hn]; rfl⟩
  · exact ⟨_, c, by rw [hn]⟩

set_option maxRecDepth 100000 in
set_option maxHeartbeats 2000000 in
theorem bookOf_c (v : Value) (g : List Int) (w : World) (hv : Rd w v g) (hg : IsGraph g) :
    Calls Tryz.prog 41 #[v] w fun e w' => ∃ b vb vf vs, e = .returned (.pointer (some ⟨b, 0, none⟩)) ∧ w.heap.size ≤ b ∧ IsBook w' b g v vb vf vs ∧ Ext w w' := by
  obtain ⟨a, c, rfl⟩ := hv.form
  have HV := Lib.hid hv; clear hv
  have HG := Lib.hid hg
  have hl := hg.le
  clear hg
  go_enter Tryz.func41, Tryz.ntmps41
  go_wp2_with fail
  refine (balls_c _ g _ HV.out HG.out).mono ?_
  rintro e w2 ⟨vb, rfl, ob, x2⟩
  have hone : vb.oneCell' = true := by
    rcases ob.get with ⟨rfl, _⟩ | ⟨gb, cb, rfl, _⟩ <;> rfl
  obtain ⟨gb, cb, hvb⟩ : ∃ gb cb, vb = .slice gb g.length cb := by
    rcases ob.get with ⟨rfl, h⟩ | ⟨gb, cb, h, _⟩
    · have h1 := congrArg List.length h
      rw [ballsTo_length, List.length_nil] at h1
      exact ⟨none, 0, by rw [h1]⟩
    · exact ⟨_, cb, by rw [h, ballsTo_length]⟩
  subst hvb
  have OB := Lib.hid ob; have X2 := Lib.hid x2
  clear ob x2 hone
  go_wp2
  obtain ⟨W3, hW3⟩ : ∃ V, V = w2.alloc (.cells #[.slice a g.length c, .slice gb g.length cb, .slice none 0 0] 72) := ⟨_, rfl⟩
  rw [← hW3]
  have hx3 : Ext w2 W3 := by rw [hW3]; exact (Ext.refl _).alloc _
  have h3 := three_cells (by rw [hW3]; exact World.alloc_heap_new w2 _ : W3.heap[w2.heap.size]? = some (.cells #[.slice a g.length c, .slice gb g.length cb, .slice none 0 0] 72 (0, 0)))
  have hs3 : w2.heap.size < W3.heap.size := by rw [hW3]; simp
  have HC := Lib.hid h3; have HX3 := Lib.hid hx3
  clear hW3 hx3 h3
  go_loopw [12] (fun i wr => ∃ (k : Nat) (vf : Value) (vs : List Value), k ≤ g.length ∧ i = .int .i64 k ∧ vs.length = k ∧ OwnRows wr (w2.heap.size + 1) vf vs ∧ Hid (∀ i, i < k → Own wr (w2.heap.size + 1) (vs.getD i undef) (distOf g i)) ∧
    Hid (wr.cell? ⟨w2.heap.size, 0, none⟩ = some (.slice a g.length c) ∧ wr.cell? ⟨w2.heap.size, 1, none⟩ = some (.slice gb g.length cb) ∧ wr.cell? ⟨w2.heap.size, 2, none⟩ = some vf ∧ ∀ i, wr.frozen? ⟨w2.heap.size, i, none⟩ = false) ∧ Ext w2 wr ∧ w2.heap.size < wr.heap.size) (fun i _ => g.length - (intOf i).toNat)
  case atStart => exact ⟨0, .slice none 0 0, [], Nat.zero_le _, rfl, rfl, World.ownsRow_nil _ _ _ _, fun i hi => absurd hi (Nat.not_lt_zero i), HC.out, HX3.out, hs3⟩
  case round =>
    clear HC HX3 hs3
    obtain ⟨k, vf, vs, hk, rfl, hvs, ho, HE, HC, hx, hlt2⟩ := hrel
    have HO := Lib.hid ho; have HX := Lib.hid hx
    clear ho hx
    by_cases hlt : k < g.length
    · obtain ⟨c0, c1, c2, cf⟩ := HC.out
      have d0 : wr.drew.cell? ⟨w2.heap.size, 0, none⟩ = some (.slice a g.length c) := c0
      have d2 : wr.drew.cell? ⟨w2.heap.size, 2, none⟩ = some vf := c2
      have HA : Hid (∀ w5, Ext wr.drew w5 → ∀ vd, Own w5 wr.drew.heap.size vd (distOf g k) → ∀ g' cap w6, OwnRows w6 (w2.heap.size + 1) (.slice (some ⟨g', 0, none⟩) (vs.length + 1) cap) (vs ++ [vd]) →
          (w5.alloc (.cells #[vd] 29)).grownBy w6 vf.ownBlock → w6.cell? ⟨w2.heap.size, 2, none⟩ = some vf ∧ w6.frozen? ⟨w2.heap.size, 2, none⟩ = false ∧
          ∃ V, V = w6.setCell ⟨w2.heap.size, 2, none⟩ (.slice (some ⟨g', 0, none⟩) (vs.length + 1) cap) ∧ OwnRows V (w2.heap.size + 1) (.slice (some ⟨g', 0, none⟩) (vs.length + 1) cap) (vs ++ [vd]) ∧ (∀ i, i < k + 1 → Own V (w2.heap.size + 1) ((vs ++ [vd]).getD i undef) (distOf g i)) ∧
            (V.cell? ⟨w2.heap.size, 0, none⟩ = some (.slice a g.length c) ∧ V.cell? ⟨w2.heap.size, 1, none⟩ = some (.slice gb g.length cb) ∧ V.cell? ⟨w2.heap.size, 2, none⟩ = some (.slice (some ⟨g', 0, none⟩) (vs.length + 1) cap) ∧ ∀ i, V.frozen? ⟨w2.heap.size, i, none⟩ = false) ∧ Ext w2 V ∧ w2.heap.size < V.heap.size) := by
        intro w5 x5 vd od g' cap w6 ho6 hg6
        obtain ⟨c0, c1, c2, cf⟩ := HC.out
        have x6 : Ext wr w5 := Ext.trans (Ext.refl wr).drew x5
        have xa : Ext w5 (w5.alloc (.cells #[vd] 29)) := (Ext.refl _).alloc _
        have oo := HO.out.ext (x6.trans xa)
        have nb : ∀ b, vf.ownBlock = some b → w2.heap.size + 1 ≤ b := fun b hb => (World.ownsRow.lt oo b hb).1
        have hblk : w6.heap[w2.heap.size]? = wr.heap[w2.heap.size]? :=
          (hg6.block _ (Nat.lt_of_lt_of_le hlt2 (x6.trans xa).size) (fun e => by have := nb _ e.symm; omega)).trans ((x6.trans xa).block hlt2)
        have hcell : ∀ i, w6.cell? ⟨w2.heap.size, i, none⟩ = wr.cell? ⟨w2.heap.size, i, none⟩ := fun i => World.cell?_of_block hblk
        have hfroz : ∀ i, w6.frozen? ⟨w2.heap.size, i, none⟩ = wr.frozen? ⟨w2.heap.size, i, none⟩ := fun i => World.frozen?_of_block hblk
        have hsz : w2.heap.size < w6.heap.size := by have h1 := hg6.size; have h2 := (x6.trans xa).size; omega
        have gset := grownBy_set w6 ⟨w2.heap.size, 2, none⟩ (.slice (some ⟨g', 0, none⟩) (vs.length + 1) cap)
        refine ⟨(hcell 2).trans c2, (hfroz 2).trans (cf 2), _, rfl, World.ownsRow.kept ho6 gset (.inr fun e => ?_), fun i hi => ?_, ⟨?_, ?_, ?_, fun i => ?_⟩, (((HX.out.trans x6).trans xa).grown hg6 (fun b hb => by have := nb b hb; omega)).setCell (Nat.le_refl _) _, by simpa using hsz⟩
        · have h1 := (World.ownsRow.lt ho6 _ e).1
          simp at h1
          omega
        · have hrow : ∃ u, (vs ++ [vd]).getD i undef = u ∧ Own (w5.alloc (.cells #[vd] 29)) (w2.heap.size + 1) u (distOf g i) := by
            by_cases h : i < k
            · exact ⟨vs.getD i undef, by simp [List.getElem?_append_left (show i < vs.length by omega)], (HE.out i h).ext (x6.trans xa)⟩
            · obtain rfl : i = k := by omega
              exact ⟨vd, by simp [← hvs], (od.ext xa).mono (by have h : w2.heap.size < wr.drew.heap.size := hlt2; omega)⟩
          obtain ⟨u, e, hu⟩ := hrow
          rw [e]
          have h1 := hu.kept hg6 (hu.apart oo)
          exact h1.kept gset (by
            cases hb : u.ownBlock with
            | none => exact .inl rfl
            | some b => exact .inr fun e => by have h2 := (h1.lt b hb).1; simp at e; omega)
        · rw [World.cell?_setCell_other _ _ _ _ (by simp), hcell]; exact c0
        · rw [World.cell?_setCell_other _ _ _ _ (by simp), hcell]; exact c1
        · exact World.cell?_setCell_same' _ _ _ (by rw [hcell, c2]; rfl)
        · rw [World.frozen?_setCell, hfroz]; exact cf i
      clear c0 c1 c2 cf
      go_wp2
      go_region_law (first
        | (refine step_append_row rfl _ _ rfl (w2.heap.size + 1) vf vs rfl ((HO.out.ext (Ext.trans (Ext.refl wr).drew X5.out)).ext ((Ext.refl _).alloc _)) w5.heap.size _ rfl rfl (one_cell _ _ _) (by omega) (by have h := X5.out.size; have h2 : wr.heap.size ≤ w5.heap.size := h; simp; omega) ?_; intro g' cap w6 ho6 hg6; obtain ⟨q1, q2, q3⟩ := HA.out _ X5.out _ OD.out _ _ _ ho6 hg6; have Q3 := Lib.hid q3; clear q3 ho6 hg6)
        | (go_simp; go_at_call 64; refine (distances_c _ g k _ (HV.out.ext (X2.out.trans HX.out).drew) HG.out hlt).mono ?_; rintro e w5 ⟨vd, rfl, od, x5⟩; have X5 := Lib.hid x5; have OD := Lib.hid od; obtain ⟨gd, cd, rfl⟩ := od.form' (dist_length HG.out hlt); have e0 := (Ext.cell x5 (x := w2.heap.size) (o := 0) hlt2).trans d0; have e2 := (Ext.cell x5 (x := w2.heap.size) (o := 2) hlt2).trans d2; have e3 := (Ext.cell (x5.alloc (.cells #[.slice gd g.length cd] 29)) (x := w2.heap.size) (o := 2) hlt2).trans d2; clear x5 od))
      all_goals
        obtain ⟨V, hV, r1, r2, r3, r4, r5⟩ := Q3.out
        simp only [Exit.inBlock]
        rw [hvs] at hV
        rw [← hV]
        have R1 := Lib.hid r1; have R2 := Lib.hid r2; have R3 := Lib.hid r3; have R4 := Lib.hid r4
        clear hV r1 r2 r3 r4
        go_wp2
        go_roundw
        case rel => exact ⟨k + 1, _, _, by omega, by go_num, by simp [hvs], R1.out, R2.out, R3.out, R4.out, r5⟩
        case measure => simp [intOf]; omega
    · obtain rfl : k = g.length := by omega
      obtain ⟨c0, c1, c2, cf⟩ := HC.out
      go_wp2
      go_ret
      exact ⟨w2.heap.size, .slice gb g.length cb, vf, vs, rfl, X2.out.size, ⟨c0, c1, c2, hlt2, ⟨_, OB.out.ext HX.out⟩, ⟨_, HO.out⟩, hvs, fun i hi => ⟨_, HE.out i hi⟩⟩, X2.out.trans HX.out⟩
end Go.Proofs.YtkmfmhckpfomeaaGreatDoor

/- A list of numbers as text: the program's list. The condition: natural numbers up to 2^20, at most 4096 of them. -/
namespace Go.Proofs.YtkmfmhckpfomeaaGreatDoor
open Go.RowKit
open BigFrame
attribute [local go_sem] Oper.semAt_some

theorem info_str : (Tryz.prog.info? 9).map (fun i => (i.zero, i.size, i.bytes)) = some (some (.string ByteArray.empty), 1, 16) := by kernel_rfl
def OwnS (w : World) (base : Nat) (v : Value) (ls : List (List UInt8)) : Prop := w.ownsRow base 9 1 v ls.length (ls.map strV)
theorem wpList_append_strs {ops : Array Oper} {rest : List Oper} {o : Oper} {a : Act} {Q : Exit → Act → World → Prop} {w : World} (hgd : o.guard = none) (s x : Operand)
    (ho : o.op = .call { callee := .builtin .append, args := #[s, x], argTypes := #[47, 47] })
    (base : Nat) (v : Value) (xs : List (List UInt8)) (hs : a.eval s = v) (hown : OwnS w base v xs) (g : Nat) (y : List UInt8) (hx : a.eval x = .slice (some ⟨g, 0, none⟩) 1 1)
    (hc : w.cell? ⟨g, 0, none⟩ = some (strV y)) (hn : xs.length ≤ 1048576) (hb : base ≤ w.heap.size)
    (h : ∀ v' w', OwnS w' base v' (xs ++ [y]) → w.grownBy w' v.ownBlock → wpList Tryz.prog ops Q rest (a.put o.dst v') w') : wpList Tryz.prog ops Q (o :: rest) a w := by
  obtain ⟨i0, hi, hz0, hz1, hz2⟩ := info_parts info_str
  refine wpList_append_own w hgd s x 47 ho base 9 i0 (.string ByteArray.empty) 1 16 Tryz.underlying47 hi hz0 hz1 hz2 rfl (by decide) v xs.length _ hs hown ⟨g, 0, none⟩ 1 1 [strV y] hx rfl ?_ (fun u hu => by simp at hu; subst hu; rfl) (by unfold maxLen; omega) (by omega) hb ?_
  · intro j u hu
    cases j with
    | zero => simp at hu; subst hu; exact hc
    | succ j => simp at hu
  · intro v' w' h1 h2 h3
    refine h v' w' ?_ h2
    unfold OwnS; simpa using h1
theorem OwnS.get {w : World} {base : Nat} {v : Value} {ls : List (List UInt8)} (h : OwnS w base v ls) : (v = .slice none 0 0 ∧ ls = []) ∨ RdS w v ls := by
  have h0 := h
  obtain ⟨h1, ⟨hv, h2⟩ | ⟨g, cap, cur, hv, hg, hh, h3, h4, h5, h6⟩⟩ := h
  · exact .inl ⟨hv, List.length_eq_zero_iff.1 h2⟩
  · subst hv
    refine .inr ⟨g, cap, rfl, (Array.getElem?_eq_some_iff.1 hh).1, h3, fun i hi => ?_⟩
    rw [World.ownsRow.cellAt h0 i (by omega)]
    simp [hi]
theorem OwnS.ext {w w' : World} {base : Nat} {v : Value} {ls : List (List UInt8)} (h : OwnS w base v ls) (hx : Ext w w') : OwnS w' base v ls := by
  obtain ⟨h1, h2⟩ := h
  refine ⟨h1, ?_⟩
  rcases h2 with h2 | ⟨g, cap, cur, hv, hg, hh, r⟩
  · exact .inl h2
  · exact .inr ⟨g, cap, cur, hv, hg, (hx.block (Array.getElem?_eq_some_iff.1 hh).1).trans hh, r⟩
set_option maxHeartbeats 1000000 in
theorem list_c (v : Value) (ns : List Nat) (k : Bool) (w : World) (hw : Wd w) (hv : Rd w v (intsOf ns)) (hns : ∀ n ∈ ns, n ≤ 1048576) (hl : ns.length ≤ 4096) :
    Calls Tryz.prog 88 #[v, .bool k] w fun e w' => e = .returned (.tuple #[strV (saidB ns), .bool k]) ∧ Ext w w' := by
  obtain ⟨a, c, rfl⟩ := hv.form
  have hlen : (intsOf ns).length = ns.length := List.length_map _
  rw [hlen] at hv ⊢
  have HV := Lib.hid hv
  have HNS := Lib.hid hns
  have HW := Lib.hid hw
  obtain ⟨L, hL⟩ : ∃ L, L = ns.length := ⟨_, rfl⟩
  rw [← hL] at hl HV ⊢
  have HL := Lib.hid hL
  clear hv hns hlen hL hw
  go_enter Tryz.func88, Tryz.ntmps88
  go_wp2
  go_loopw [6, 11] (fun o i wr => ∃ (j : Nat), j ≤ L ∧ i = .int .i64 j ∧ Hid (OwnS wr w.heap.size o ((ns.take j).map Lib.decDigits)) ∧ Ext w wr) (fun _ i _ => L - (intOf i).toNat)
  case atStart => exact ⟨0, Nat.zero_le _, rfl, World.ownsRow_nil _ _ _ _, Ext.refl _⟩
  case round =>
    obtain ⟨j, hj, rfl, HO, hx⟩ := hrel
    have HX := Lib.hid hx; clear hx
    by_cases hlt : j < L
    · have hlt' : j < ns.length := by rw [← HL.out]; exact hlt
      obtain ⟨n, hn⟩ : ∃ n, n = ns.getD j 0 := ⟨_, rfl⟩
      have hn20 : n ≤ 1048576 := by rw [hn, List.getD, List.getElem?_eq_getElem hlt']; exact HNS.out _ (List.getElem_mem hlt')
      obtain ⟨b, o, rfl, -, -, hc⟩ := HV.out.atI hlt
      have c0 := hc _ HX.out
      rw [show getI (intsOf ns) j = ((n : Nat) : Int) from by rw [hn]; exact intsOf_get] at c0
      have HC := itoa_c n wr (HW.out.ext HX.out) (by omega) (by omega)
      rw [show Lib.itoa (n : Int) = Lib.decDigits n from by unfold Lib.itoa; rw [if_neg (by omega), Int.toNat_natCast]] at HC
      obtain ⟨D, KD, hD⟩ := IsStr.of (Lib.decDigits n)
      rw [hD.val] at HC
      have HV2 := Lib.hid hD.val; clear hD
      have HC' := Lib.hid HC
      have HT : Hid ((ns.take (j + 1)).map Lib.decDigits = (ns.take j).map Lib.decDigits ++ [Lib.decDigits n]) := by unfold Hid; rw [take_nat hlt', ← hn]; simp
      have hll : ((ns.take j).map Lib.decDigits).length ≤ 1048576 := by rw [List.length_map, List.length_take]; omega
      have HLL := Lib.hid hll
      clear hc HC hn hn20 hlt' hll
      go_wp2_with (first
        | (go_at_call 31; refine HC'.out.mono ?_; rintro e w2 ⟨rfl, x2⟩; have X2 := Lib.hid (HX.out.trans x2); have O2 := Lib.hid (HO.out.ext x2); clear x2)
        | (at_builtin; refine wpList_append_strs rfl _ _ rfl w.heap.size _ _ rfl (O2.out.ext ((Ext.refl _).alloc _)) w2.heap.size (Lib.decDigits n) rfl (by rw [HV2.out]; exact one_cell w2 _ _) HLL.out (by simp; have := X2.out.size; omega) ?_; intro v' w3 ho3 hg3))
      have X3 : Hid (Ext w w3) := (X2.out.alloc _).grown hg3 (fun q hq => (World.ownsRow.lt (O2.out.ext ((Ext.refl w2).alloc (.cells #[.string D] 9))) q hq).1)
      have O3 := Lib.hid ho3
      clear ho3 hg3
      go_wp2
      go_roundw
      case rel => exact ⟨j + 1, by omega, by go_num, by unfold Hid; rw [HT.out]; exact O3.out, X3.out⟩
      case measure => simp [intOf] <;> omega
    · obtain rfl : j = L := by omega
      have HE : Hid (ns.take j = ns) := by unfold Hid; rw [HL.out]; exact List.take_length
      rw [HE.out] at HO
      have hjl : (saidB ns).length ≤ 1073741824 := by
        have h1 := said_len ns HNS.out
        rw [← HL.out] at h1
        omega
      have HC : Hid (Calls Tryz.prog 134 #[u6, strV [32]] wr fun e w' => e = .returned (strV (saidB ns)) ∧ Ext wr w') := by
        rcases HO.out.get with ⟨h1, h2⟩ | h1
        · have h3 : saidB ns = Lib.join [] [32] := by unfold saidB; rw [h2]
          rw [h1, h3]
          exact join_none_c _ _ _ _
        · exact joinT_c [32] _ _ wr h1 (by rw [List.length_map, ← HL.out]; omega) hjl
      clear hjl
      go_wp2_with fail
      refine HC.out.mono ?_
      rintro e w2 ⟨rfl, x2⟩
      have X2 := Lib.hid (HX.out.trans x2); clear x2
      go_wp2
      go_ret2
      exact ⟨rfl, X2.out⟩
end Go.Proofs.YtkmfmhckpfomeaaGreatDoor
