/- Whether a pool tells wrong items: the reference and the program compute the same plain function. The condition: the list has at most 2^20 numbers. -/
import Derived.Test.YtpmammklklkheaaVar
import Derived.Test.YtpmammklklkheaaMap
namespace Go.Proofs.Ytpmammklklkheaa
open Go.RowKit
open BigFrame
attribute [local go_sem] Oper.semAt_some

/-- Whether one of the first k sets has these answers. -/
def seenTo (tests : List Int) (d k a : Nat) : Bool := (List.range k).any fun j => fewB d j && (answersOf tests j == a)
def tellsTo (tests : List Int) (d N : Nat) : Bool := (List.range N).all fun k => !(fewB d k && seenTo tests d k (answersOf tests k))
def poolTells (items : Int) (tests : List Int) (d : Int) : Bool := poolIn items tests && inB 0 d 3 && tellsTo tests d.toNat (2 ^ items.toNat)
theorem seenTo_skip {tests : List Int} {d k : Nat} (h : fewB d k = false) (a : Nat) : seenTo tests d (k + 1) a = seenTo tests d k a := by
  unfold seenTo
  rw [List.range_succ, List.any_append]
  simp [h]
theorem seenTo_next {tests : List Int} {d k : Nat} (h : fewB d k = true) (a : Nat) : seenTo tests d (k + 1) a = (seenTo tests d k a || (answersOf tests k == a)) := by
  unfold seenTo
  rw [List.range_succ, List.any_append]
  simp [h]
theorem tellsTo_false {tests : List Int} {d N k : Nat} (hk : k < N) (h : fewB d k = true) (hs : seenTo tests d k (answersOf tests k) = true) : tellsTo tests d N = false := by
  unfold tellsTo
  rw [List.all_eq_false]
  exact ⟨k, List.mem_range.2 hk, by rw [h, hs]; decide⟩
theorem tellsTo_true {tests : List Int} {d N : Nat} (h : ∀ k, k < N → fewB d k = true → seenTo tests d k (answersOf tests k) = false) : tellsTo tests d N = true := by
  unfold tellsTo
  rw [List.all_eq_true]
  intro k hk
  cases hf : fewB d k
  · rfl
  · rw [h k (List.mem_range.1 hk) hf]; rfl
theorem few_iff' {d k : Nat} : fewB d k = true ↔ cnt k ≤ d := by simp [fewB]
theorem info_bool : (Try.prog.info? 4).map (fun i => (i.zero, i.size, i.bytes)) = some (some (.bool false), 1, 1) := by kernel_rfl

theorem IntMap.book {B : Nat} {w w' : World} {b : Nat} {f : Int → Option Value} (h : IntMap w b f) (hB : Book B w w') (hb : b < B) : IntMap w' b f := by
  obtain ⟨es, clock, hh, hf⟩ := h
  exact ⟨es, clock, hB.block _ _ hh (.inl hb), hf⟩
/-- The map holds true just at the answers that came. -/
def SeenMap (w : World) (b : Nat) (tests : List Int) (d k : Nat) : Prop := ∃ f, IntMap w b f ∧ ∀ a : Nat, f (a : Int) = if seenTo tests d k a then some (.bool true) else none

set_option maxRecDepth 100000 in
set_option maxHeartbeats 2000000 in
theorem poolTellsI_c (items : Int) (v : Value) (xs : List Int) (d : Int) (w : World) (hv : Rd w v xs) (hm : xs.length ≤ 1048576) :
    Calls Try.prog 42 #[.int .i64 items, v, .int .i64 d] w fun e w' => e = .returned (.bool (poolTells items xs d)) ∧ Ext w w' := by
  obtain ⟨a, c, rfl⟩ := hv.form
  obtain ⟨W, hW⟩ : ∃ W, W = w.alloc (.cells #[.bool false] 4) := ⟨_, rfl⟩
  have hx : Ext w W := by rw [hW]; exact (Ext.refl _).alloc _
  have v0 : Var W w.heap.size (.bool false) := by rw [hW]; exact Var.new _ _ _
  have HV := Lib.hid (hv.ext hx); clear hv
  have HM := Lib.hid hm
  have HW := Lib.hid hW
  have HX0 := Lib.hid hx
  have V0 := Lib.hid v0
  have hmk : ∀ w : World, (Instr.makeMap 68 none).run Try.prog w = .ok (.map (some w.heap.size)) (w.alloc (.map #[] 0)) := fun w => rfl
  clear hW hx v0
  refine calls_marks Try.func42 rfl ?_
  simp only [Try.ntmps42, List.size_toArray, List.length_cons, List.length_nil, Nat.reduceAdd, Nat.reduceSub, Array.replicate_succ, Array.replicate_zero, List.push_toArray, List.append_toArray, List.nil_append, List.cons_append]
  cases h0 : poolIn items xs
  · rw [show poolTells items xs d = false from by unfold poolTells; rw [h0]; rfl]
    go_wp2_with fail
    rw [← HW.out]
    refine (poolInI_c _ _ _ _ HV.out HM.out).mono ?_
    rintro e w1 ⟨rfl, x1⟩
    have X1 := Lib.hid x1; clear x1
    obtain ⟨c0, f0, -⟩ := V0.out.ext X1.out
    go_wp2
    exact leave_bool rfl rfl ((V0.out.ext X1.out).set _).cell (Marks.nil _ _) ((HX0.out.trans X1.out).setCell (Nat.le_refl _) _) rfl
  · cases hd : inB 0 d 3
    · rw [show poolTells items xs d = false from by unfold poolTells; rw [h0, hd]; rfl]
      go_wp2_with fail
      rw [← HW.out]
      refine (poolInI_c _ _ _ _ HV.out HM.out).mono ?_
      rintro e w1 ⟨rfl, x1⟩
      have X1 := Lib.hid x1; clear x1
      obtain ⟨c0, f0, -⟩ := V0.out.ext X1.out
      go_wp2_with (go_at_call 83; refine (isFew_c _ _).mono ?_; rintro e w' ⟨rfl, rfl⟩)
      exact leave_bool rfl rfl ((V0.out.ext X1.out).set _).cell (Marks.nil _ _) ((HX0.out.trans X1.out).setCell (Nat.le_refl _) _) rfl
    · obtain ⟨n, rfl, hP⟩ := poolIn_iff.1 h0
      have hl := hP.len
      have hn := hP.le
      have HP := Lib.hid hP; clear hP
      obtain ⟨D, rfl⟩ : ∃ D : Nat, d = D := ⟨d.toNat, by have := inB_iff.1 hd; omega⟩
      rw [show poolTells n xs D = tellsTo xs D (2 ^ n) from by unfold poolTells; rw [h0, hd]; rfl]
      go_wp2_with fail
      rw [← HW.out]
      refine (poolInI_c _ _ _ _ HV.out HM.out).mono ?_
      rintro e w1 ⟨rfl, x1⟩
      have X1 := Lib.hid x1; clear x1
      go_wp2_with (go_at_call 83; refine (isFew_c _ _).mono ?_; rintro e w' ⟨rfl, rfl⟩)
      clear hmk
      obtain ⟨Wa, hWa⟩ : ∃ V, V = w1.alloc (.cells #[.int .i64 (n : Int), .slice a xs.length c] 67) := ⟨_, rfl⟩
      rw [← hWa]
      have hsa : Wa.heap.size = w1.heap.size + 1 := by rw [hWa]; simp
      have hpa := two_cells (by rw [hWa]; exact World.alloc_heap_new w1 _ : Wa.heap[w1.heap.size]? = some (.cells #[.int .i64 (n : Int), .slice a xs.length c] 67 (0, 0)))
      have hxa : Ext W Wa := by rw [hWa]; exact X1.out.alloc _
      obtain ⟨Wb, hWb⟩ : ∃ V, V = Wa.alloc (.map #[] 0) := ⟨_, rfl⟩
      rw [← hWb]
      have hmb : IntMap Wb (w1.heap.size + 1) (fun _ => none) := by rw [hWb, ← hsa]; exact IntMap.empty Wa
      have hsb : Wb.heap.size = w1.heap.size + 1 + 1 := by rw [hWb, World.size_alloc, hsa]
      have hxb : Ext Wa Wb := by rw [hWb]; exact (Ext.refl _).alloc _
      obtain ⟨Wc, hWc⟩ : ∃ V, V = Wb.alloc (.cells #[.map (some (w1.heap.size + 1))] 68) := ⟨_, rfl⟩
      rw [← hWc]
      have hvc : Var Wc (w1.heap.size + 1 + 1) (.map (some (w1.heap.size + 1))) := by rw [hWc, ← hsb]; exact Var.new _ _ _
      have hsc : Wc.heap.size = w1.heap.size + 1 + 1 + 1 := by rw [hWc, World.size_alloc, hsb]
      have hxc : Ext Wb Wc := by rw [hWc]; exact (Ext.refl _).alloc _
      refine (few_c _ _ _ _ _ _).mono ?_
      rintro e w' ⟨rfl, rfl⟩
      obtain ⟨W2, hW2⟩ : ∃ W2, W2 = (Wc.alloc (.cells #[.int .i64 (n : Int), .slice a xs.length c] 67)).alloc (.cells #[.int .i64 (D : Int)] 3) := ⟨_, rfl⟩
      rw [← hW2]
      have hx2 : Ext Wc W2 := by rw [hW2]; exact ((Ext.refl _).alloc _).alloc _
      have hq1 : W2.cell? ⟨Wc.heap.size, 0, none⟩ = some (.int .i64 n) := by
        rw [hW2]
        have h := (two_cells (World.alloc_heap_new Wc (.cells #[.int .i64 (n : Int), .slice a xs.length c] 67))).1
        exact (((Ext.refl _).alloc _).cell (by simp)).trans h
      have hq2 : W2.cell? ⟨Wc.heap.size + 1, 0, none⟩ = some (.int .i64 D) := by
        rw [hW2]
        have h := (Var.new (Wc.alloc (.cells #[.int .i64 (n : Int), .slice a xs.length c] 67)) (.int .i64 D) 3).cell
        rw [World.size_alloc] at h; exact h
      have hs2 : W2.heap.size = Wc.heap.size + 2 := by rw [hW2]; simp
      have HXA := Lib.hid hxa; have HPA := Lib.hid hpa; have HX2 := Lib.hid (hxb.trans (hxc.trans hx2))
      have HMB := Lib.hid (hmb.ext (hxc.trans hx2)); have HVC := Lib.hid (hvc.ext hx2); have HQ1 := Lib.hid hq1; have HQ2 := Lib.hid hq2
      have l1 : w1.heap.size < Wa.heap.size := by omega
      have l2 : Wa.heap.size ≤ w1.heap.size + 1 := by omega
      have l3 : w1.heap.size + 1 + 1 + 1 ≤ Wc.heap.size := by omega
      have l4 : Wc.heap.size + 2 ≤ W2.heap.size := by omega
      clear hWa hWb hWc hW2 hsa hsb hsc hs2 hpa hxa hmb hxb hvc hxc hx2 hq1 hq2
      go_wp2
      refine wp_range (few_iter Wc.heap.size (Wc.heap.size + 1) n D hn) rfl few_enters rfl
        (fun k W' => (∀ j, j < k → fewB D j = true → seenTo xs D j (answersOf xs j) = false) ∧ SeenMap W' (w1.heap.size + 1) xs D k ∧ Ext Wa W' ∧ W2.heap.size ≤ W'.heap.size ∧
          W'.cell? ⟨w1.heap.size + 1 + 1, 0, none⟩ = some (.map (some (w1.heap.size + 1))) ∧ W'.cell? ⟨Wc.heap.size, 0, none⟩ = some (.int .i64 n) ∧ W'.cell? ⟨Wc.heap.size + 1, 0, none⟩ = some (.int .i64 D))
        (fun cc W' => cc = .ret ∧ tellsTo xs D (2 ^ n) = false ∧ W'.cell? ⟨w.heap.size, 0, none⟩ = some (.bool false) ∧ Ext w W')
        ?hI ?hIx ?hKi ?h0 ?hskip ?hround ?hdone ?hstop
      case hI =>
        rintro j W' W'' hB ⟨h1, ⟨f, h2, h2'⟩, h3, h4, h5, h6, h7⟩
        exact ⟨h1, ⟨f, h2.book hB (by omega), h2'⟩, h3.book (by omega) hB, Nat.le_trans h4 hB.size, hB.cell h5, hB.cell h6, hB.cell h7⟩
      case hIx =>
        rintro cc W' W'' hB ⟨h1, h2, h3, h4⟩
        exact ⟨h1, h2, hB.cell h3, h4.book (((HX0.out.trans HXA.out).trans HX2.out).size) hB⟩
      case hKi =>
        rintro j W' ⟨_, _, _, h4, _, h6, h7⟩
        exact ⟨h6, h7, by omega, by omega⟩
      case h0 => exact ⟨fun j hj => absurd hj (Nat.not_lt_zero j), ⟨_, HMB.out, fun a => by simp [seenTo]⟩, HX2.out, Nat.le_refl _, HVC.out.cell, HQ1.out, HQ2.out⟩
      case hskip =>
        rintro j W' hj hp ⟨h1, ⟨f, h2, h2'⟩, h3⟩
        exact ⟨fun i hi hf => by
          by_cases h : i = j
          · subst h; rw [hp] at hf; cases hf
          · exact h1 i (by omega) hf, ⟨f, h2, fun a => by rw [seenTo_skip hp]; exact h2' a⟩, h3⟩
      case hround =>
        rintro l j W' hj hp ⟨h1, ⟨f, h2, h2'⟩, h3, h4, h5, h6, h7⟩ hsz
        have H1 := Lib.hid h1; have H2 := Lib.hid h2; have H2' := Lib.hid h2'; have H3 := Lib.hid h3; have H5 := Lib.hid h5; have H6 := Lib.hid h6; have H7 := Lib.hid h7; have HP1 := Lib.hid hp
        clear h1 h2 h2' h3 h5 h6 h7 hp
        have hj4 : j ≤ 4095 := by have := pow_le_12 hn; omega
        gi_wp2
        refine ⟨KeepsFrom.refl _ _, fun W'' hB => ?_⟩
        have hE : Hid (Ext Wa W'') := H3.out.book (by omega) hB
        have hM := Lib.hid (H2.out.book hB (by omega))
        have hc5 := Lib.hid (hB.cell H5.out); have hc6 := Lib.hid (hB.cell H6.out); have hc7 := Lib.hid (hB.cell H7.out)
        have h4' : W2.heap.size ≤ W''.heap.size := Nat.le_trans h4 hB.size
        clear hB H2 H3 H5 H6 H7 h4
        have k1 : W''.cell? ⟨w1.heap.size, 0, none⟩ = some (.int .i64 n) := (hE.out.cell l1).trans HPA.out.1
        have k2 : W''.cell? ⟨w1.heap.size, 1, none⟩ = some (.slice a xs.length c) := (hE.out.cell l1).trans HPA.out.2
        gi_wp2_with fail
        refine (callsFW (answers_c n n (.slice a xs.length c) xs j W'' (HV.out.ext (HXA.out.trans hE.out)) HP.out hj4)).mono ?_
        rintro e W3 ⟨rfl, x3⟩
        have E3 := Lib.hid (hE.out.trans x3); have M3 := Lib.hid (hM.out.ext x3)
        have d5 := (x3.cell (by omega)).trans hc5.out
        have d6 := Lib.hid ((x3.cell (by omega)).trans hc6.out); have d7 := Lib.hid ((x3.cell (by omega)).trans hc7.out); have D5 := Lib.hid d5
        have h4'' : W2.heap.size ≤ W3.heap.size := Nat.le_trans h4' x3.size
        have HK3 : Hid (KeepsFrom W2.heap.size W'' W3) := KeepsFrom.of_ext x3
        clear k1 k2 x3 hE hM hc5 hc6 hc7 h4'
        obtain ⟨A, hA⟩ : ∃ A, A = answersOf xs j := ⟨_, rfl⟩
        rw [← hA]
        have HA := Lib.hid hA; clear hA
        have hl := M3.out.lookup Try.underlying68 (show (zeroValue 4).run Try.prog W3 = .ok (.bool false) W3 from rfl) A
        rw [H2'.out A] at hl
        cases hs : seenTo xs D j A
        · rw [hs, if_neg (by decide)] at hl
          have HS := Lib.hid hs; clear hs
          obtain ⟨W4, hu, m4, hx4, hs4, ho4⟩ := M3.out.update Try.underlying68 A (.bool true)
          have M4 := Lib.hid m4; have HX4 := Lib.hid hx4; have HS4 := Lib.hid hs4; have HO4 := Lib.hid ho4
          clear m4 hx4 hs4 ho4
          gi_wp2
          have hs4 := HS4.out
          refine ⟨HK3.out.trans ⟨by omega, fun k o hk ho _ => (HO4.out k (by omega)).trans ho⟩, fun i hi hf => ?_, ⟨_, M4.out, fun a => ?_⟩, HX4.out _ E3.out (by omega), by omega, ?_, ?_, ?_⟩
          · by_cases h : i = j
            · subst h; rw [← HA.out]; exact HS.out
            · exact H1.out i (by omega) hf
          · unfold put
            rw [seenTo_next HP1.out, ← HA.out]
            by_cases h : a = A
            · subst h; simp
            · rw [if_neg (by omega), H2'.out a, beq_eq_false_iff_ne.2 (fun e => h e.symm), Bool.or_false]
          · rw [← D5.out]; unfold World.cell?; rw [HO4.out (w1.heap.size + 1 + 1) (by omega)]
          · rw [← d6.out]; unfold World.cell?; rw [HO4.out Wc.heap.size (by omega)]
          · rw [← d7.out]; unfold World.cell?; rw [HO4.out (Wc.heap.size + 1) (by omega)]
        · rw [hs, if_pos rfl] at hl
          have HS := Lib.hid hs; clear hs
          have X3 := Lib.hid (HXA.out.trans E3.out)
          obtain ⟨c0, f0, -⟩ := V0.out.ext X3.out
          gi_wp2
          exact ⟨HK3.out.trans (KeepsFrom.setCell' _ _ _ _), rfl, tellsTo_false hj HP1.out (by rw [← HA.out]; exact HS.out), ((V0.out.ext X3.out).set _).cell, (HX0.out.trans X3.out).setCell (Nat.le_refl _) _⟩
      case hdone =>
        rintro D' W' hD ⟨h1, h2, h3, h4, h5⟩ hDD
        have H1 := Lib.hid h1; have X3 := Lib.hid (HXA.out.trans h3); have HD := Lib.hid hDD; clear h1 h2 h3 h5 hDD
        obtain ⟨c0, f0, -⟩ := V0.out.ext X3.out
        go_wp2
        exact leave_bool rfl rfl ((V0.out.ext X3.out).set _).cell (((Marks.nil _ _).cons (n := W2.heap.size) (fun k hk => by obtain ⟨_, hk, _⟩ := hk; cases hk) hD (Nat.le_trans (((HX0.out.trans HXA.out).trans HX2.out).size) hD) HD.out).setCell _ _) ((HX0.out.trans X3.out).setCell (Nat.le_refl _) _) (tellsTo_true H1.out).symm
      case hstop =>
        rintro D' cc W' hD ⟨rfl, h2, h3, h4⟩ hDD
        go_wp2
        exact leave_bool rfl rfl h3 ((Marks.nil _ _).cons (n := W2.heap.size) (fun k hk => by obtain ⟨_, hk, _⟩ := hk; cases hk) hD (Nat.le_trans (((HX0.out.trans HXA.out).trans HX2.out).size) hD) hDD) h4 h2.symm
end Go.Proofs.Ytpmammklklkheaa
