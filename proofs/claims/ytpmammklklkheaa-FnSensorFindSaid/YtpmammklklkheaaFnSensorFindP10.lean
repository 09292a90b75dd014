/- What the walk of FnSensorFind rests on, part 10: plain facts, and contracts of the functions that it reaches. Each states its own condition. -/
import Derived.Test.YtpmammklklkheaaFnSensorFindP8
import Derived.Test.YtpmammklklkheaaFnSensorFindP9
import Derived.Test.YtpmammklklkheaaFnSensorFindP3
import Derived.Test.YtpmammklklkheaaFnSensorFindP4
/- Codes by the reference: the table of distances; whether a set is a code of a kind. No condition. -/
namespace Go.Proofs.Ytpmammklklkheaa
open Go.RowKit
open BigFrame

theorem wpList_append_row {ops : Array Oper} {rest : List Oper} {o : Oper} {a : Act} {Q : Exit → Act → World → Prop} {w : World} (hgd : o.guard = none) (s x : Operand)
    (ho : o.op = .call { callee := .builtin .append, args := #[s, x], argTypes := #[69, 69] })
    (base : Nat) (v : Value) (vs : List Value) (hs : a.eval s = v) (hown : OwnRows w base v vs) (g : Nat) (y : Value) (hy : y.oneCell' = true) (hx : a.eval x = .slice (some ⟨g, 0, none⟩) 1 1)
    (hc : w.cell? ⟨g, 0, none⟩ = some y) (hn : vs.length ≤ 1048576) (hb : base ≤ w.heap.size)
    (h : ∀ v' w', OwnRows w' base v' (vs ++ [y]) → w.grownBy w' v.ownBlock → wpList Try.prog ops Q rest (a.put o.dst v') w') : wpList Try.prog ops Q (o :: rest) a w := by
  obtain ⟨i0, hi, hz0, hz1, hz2⟩ := info_parts info_row
  refine wpList_append_lies w hgd s x 69 ho base 23 i0 (.slice none 0 0) 1 24 Try.underlying69 hi hz0 hz1 hz2 rfl (by decide) v vs.length _ hs hown ⟨g, 0, none⟩ 1 1 [y] hx rfl ?_ (fun u hu => by simp at hu; subst hu; exact hy) (by omega) (by unfold maxLen; omega) (by omega) hb _ rfl ?_
  · intro j u hu
    cases j with
    | zero => simp at hu; subst hu; exact hc
    | succ j => simp at hu
  · intro g' cap w' h1 h2 _ _
    refine h _ w' ?_ h2
    unfold OwnRows; simpa using h1
theorem OwnRows.lt {w : World} {base : Nat} {v : Value} {vs : List Value} (h : OwnRows w base v vs) : ∀ k, v.ownBlock = some k → base ≤ k ∧ k < w.heap.size := World.ownsRow.lt h
theorem OwnRows.at {w : World} {base : Nat} {v : Value} {vs : List Value} (h : OwnRows w base v vs) {i : Nat} (hi : i < vs.length) :
    ∃ b c, v = .slice (some ⟨b, 0, none⟩) vs.length c ∧ b < w.heap.size ∧ ∀ j, j < vs.length → w.cell? ⟨b, j, none⟩ = some (vs.getD j undef) := by
  have h0 := h
  obtain ⟨h1, ⟨hv, h2⟩ | ⟨g, cap, cur, hv, hg, hh, h3, h4, h5, h6⟩⟩ := h
  · omega
  · subst hv
    refine ⟨g, cap, rfl, (Array.getElem?_eq_some_iff.1 hh).1, fun j hj => ?_⟩
    rw [World.ownsRow.cellAt h0 j (by omega)]
    simp [hj]
/-- The table of all distances. -/
structure IsTab (w : World) (g : List Int) (v : Value) (vs : List Value) : Prop where
  own : ∃ base, OwnRows w base v vs
  len : vs.length = g.length
  row : ∀ i, i < g.length → Rd w (vs.getD i undef) (distOf g i)
theorem IsTab.ext {w w' : World} {g : List Int} {v : Value} {vs : List Value} (h : IsTab w g v vs) (hx : Ext w w') : IsTab w' g v vs :=
  ⟨h.own.imp fun _ h => h.ext hx, h.len, fun i hi => (h.row i hi).ext hx⟩
/-- Element c of row i. -/
theorem IsTab.get {w : World} {g : List Int} {v : Value} {vs : List Value} (h : IsTab w g v vs) (hg : IsGraph g) :
    ∃ b cap, v = .slice (some ⟨b, 0, none⟩) g.length cap ∧ b < w.heap.size ∧ ∀ i, i < g.length → ∃ r o cr, (∀ w', Ext w w' → w'.cell? ⟨b, i, none⟩ = some (.slice (some ⟨r, o, none⟩) g.length cr)) ∧ ∀ c, c < g.length → ∀ w', Ext w w' → w'.cell? ⟨r, o + c, none⟩ = some (.int .i64 (dd g i c : Nat)) := by
  obtain ⟨base, ho⟩ := h.own
  obtain ⟨b, cap, rfl, hb, hc⟩ := ho.at (i := 0) (by rw [h.len]; exact hg.pos)
  refine ⟨b, cap, by rw [h.len], hb, fun i hi => ?_⟩
  have hr := h.row i hi
  obtain ⟨a, cr, he⟩ := hr.form
  rw [dist_length hg hi] at he
  rw [he] at hr
  obtain ⟨r, o, rfl, -, -, -⟩ := hr.atI (k := 0) (by have := hg.pos; omega)
  refine ⟨r, o, cr, fun w' hx => (hx.cell hb).trans (by rw [hc i (by rw [h.len]; exact hi), he]), fun c hcl w' hx => ?_⟩
  obtain ⟨r', o', he', -, -, hcc⟩ := hr.atI hcl
  obtain ⟨rfl, rfl⟩ : r = r' ∧ o = o' := by simpa using he'
  rw [hcc w' hx]
  congr 2
  exact dist_get hg hi hcl

set_option maxRecDepth 100000 in
set_option maxHeartbeats 1000000 in
theorem l2Table_c (v : Value) (g : List Int) (w : World) (hv : Rd w v g) (hg : IsGraph g) :
    Calls Try.prog 109 #[v] w fun e w' => ∃ v' vs, e = .returned v' ∧ IsTab w' g v' vs ∧ Ext w w' := by
  obtain ⟨a, c, rfl⟩ := hv.form
  obtain ⟨W, hW⟩ : ∃ W, W = w.alloc (.cells #[] 23) := ⟨_, rfl⟩
  have ho0 : OwnRows W w.heap.size (.slice (some ⟨w.heap.size, 0, none⟩) 0 0) [] := by rw [hW]; exact World.ownsRow_lit w #[] 0 (Nat.le_refl _) (by unfold maxLen; omega) rfl
  have hx0 : Ext w W := by rw [hW]; exact (Ext.refl _).alloc _
  have hsW : w.heap.size < W.heap.size := by rw [hW]; simp
  have HW := Lib.hid hW; have HO0 := Lib.hid ho0; have HX0 := Lib.hid hx0; have HV := Lib.hid hv
  have HG := Lib.hid hg
  have hl := hg.le
  clear hv hW ho0 hx0 hg
  go_enter Try.func109, Try.ntmps109
  go_wp2
  rw [← HW.out]
  go_loopw [3, 4] (fun o i wr => ∃ (k : Nat) (vs : List Value), k ≤ g.length ∧ i = .int .i64 k ∧ vs.length = k ∧ Hid (OwnRows wr w.heap.size o vs) ∧ Hid (∀ i, i < k → ∃ base, Own wr base (vs.getD i undef) (distOf g i) ∧ ((vs.getD i undef).ownBlock = none ∨ (vs.getD i undef).ownBlock ≠ o.ownBlock)) ∧ Hid (Ext w wr) ∧ W.heap.size ≤ wr.heap.size) (fun _ i _ => g.length - (intOf i).toNat)
  case atStart => exact ⟨0, [], Nat.zero_le _, rfl, rfl, HO0.out, fun i hi => absurd hi (Nat.not_lt_zero i), HX0.out, Nat.le_refl _⟩
  case round =>
    clear HO0 HX0
    obtain ⟨k, vs, hk, rfl, hvs, HO, HE, HX, hsz⟩ := hrel
    by_cases hlt : k < g.length
    · go_wp2_with fail
      refine (l1Distances_c _ g k _ (HV.out.ext HX.out) HG.out hlt).mono ?_
      rintro e w2 ⟨vd, rfl, od, x2⟩
      have O2 := Lib.hid (HO.out.ext x2); have X2 := Lib.hid (HX.out.trans x2); have OD := Lib.hid od
      have E2 : Hid (∀ i, i < k → ∃ base, Own w2 base (vs.getD i undef) (distOf g i)) := fun i hi => by obtain ⟨base, h, _⟩ := HE.out i hi; exact ⟨base, h.ext x2⟩
      have hsz2 : W.heap.size ≤ w2.heap.size := Nat.le_trans hsz x2.size
      obtain ⟨gd, cd, rfl⟩ := od.form' (dist_length HG.out hlt)
      clear od x2
      go_wp2_with (at_builtin; refine wpList_append_row rfl _ _ rfl w.heap.size _ vs rfl (O2.out.ext ((Ext.refl _).alloc _)) w2.heap.size _ rfl rfl (one_cell _ _ _) (by omega) (by simp; have := X2.out.size; omega) ?_; intro v' w3 ho3 hg3)
      have X3 : Hid (Ext w w3) := (X2.out.alloc _).grown hg3 (fun b hb => (O2.out.lt b hb).1)
      have hsz3 : W.heap.size ≤ w3.heap.size := by have := hg3.size; simp at this; omega
      have O3 := Lib.hid ho3
      have E3 : Hid (∀ i, i < k + 1 → ∃ base, Own w3 base ((vs ++ [Value.slice gd g.length cd]).getD i undef) (distOf g i) ∧ (((vs ++ [Value.slice gd g.length cd]).getD i undef).ownBlock = none ∨ ((vs ++ [Value.slice gd g.length cd]).getD i undef).ownBlock ≠ v'.ownBlock)) := fun i hi => by
        have key : ∃ base, Own w2 base ((vs ++ [Value.slice gd g.length cd]).getD i undef) (distOf g i) := by
          by_cases h : i < k
          · obtain ⟨base, h1⟩ := E2.out i h
            exact ⟨base, by rw [List.getD_eq_getElem?_getD, List.getElem?_append_left (by omega), ← List.getD_eq_getElem?_getD]; exact h1⟩
          · obtain rfl : i = k := by omega
            exact ⟨_, by rw [List.getD_eq_getElem?_getD, List.getElem?_append_right (by omega), hvs]; simpa using OD.out⟩
        obtain ⟨base, h1⟩ := key
        have h2 := (h1.ext ((Ext.refl w2).alloc (.cells #[.slice gd g.length cd] 23)))
        have h3 := h2.kept hg3 (h2.apart (O2.out.ext ((Ext.refl _).alloc _)))
        exact ⟨base, h3, h3.apart ho3⟩
      clear ho3 hg3
      go_wp2
      go_roundw
      case rel => exact ⟨k + 1, _, by omega, by go_num, by simp [hvs], O3.out, E3.out, X3.out, hsz3⟩
      case measure => simp [intOf]; omega
    · obtain rfl : k = g.length := by omega
      go_wp2
      go_ret
      exact ⟨_, vs, rfl, ⟨⟨_, HO.out⟩, hvs, fun i hi => (HE.out i hi).elim fun _ h => h.1.rd⟩, HX.out⟩

set_option maxHeartbeats 1000000 in
theorem l2Covers_c (v : Value) (g : List Int) (s : Nat) (w : World) (hv : Rd w v (marksTo g s g.length)) (hg : IsGraph g) :
    Calls Try.prog 122 #[v] w fun e w' => e = .returned (.bool (covN g s)) ∧ w = w' := by
  obtain ⟨a, c, rfl⟩ := hv.form
  rw [marksTo_length] at hv ⊢
  have HV := Lib.hid hv
  have hl := hg.le
  clear hv hg
  go_enter Try.func122, Try.ntmps122
  go_wp2
  go_loop [3] (fun i => ∃ k : Nat, k ≤ g.length ∧ i = .int .i64 k ∧ Hid (∀ j, j < k → markN g s j ≠ 0)) (fun i => g.length - (intOf i).toNat)
  case atStart => exact ⟨0, Nat.zero_le _, rfl, fun j hj => absurd hj (Nat.not_lt_zero j)⟩
  case round =>
    obtain ⟨k, hk, rfl, HJ⟩ := hrel
    by_cases hlt : k < g.length
    · obtain ⟨b, o, rfl, -, -, hc⟩ := HV.out.atI hlt
      have c1 := hc _ (Ext.refl w)
      rw [show getI (marksTo g s g.length) k = ((markN g s k : Nat) : Int) from marksTo_get _ _ _ _ hlt] at c1
      obtain ⟨m, hm⟩ : ∃ m, m = markN g s k := ⟨_, rfl⟩
      rw [← hm] at c1
      have HM := Lib.hid hm
      clear hc hm
      by_cases hz : m = 0
      · have hz' : ((m : Int) == 0) = true := by simp [hz]
        have HF : Hid (covN g s = false) := by
          unfold Hid
          rw [← Bool.not_eq_true, covN_iff]
          exact fun h => h k hlt (HM.out.symm.trans hz)
        clear hz
        go_wp2
        go_ret
        exact ⟨ret_bool HF.out.symm, rfl⟩
      · have hz' : ((m : Int) == 0) = false := by simp [hz]
        have HZ := Lib.hid hz
        clear hz
        go_wp2
        go_round
        case rel => exact ⟨k + 1, by omega, by go_num, fun j hj => by
          by_cases h : j = k
          · subst h; rw [← HM.out]; exact HZ.out
          · exact HJ.out j (by omega)⟩
        case measure => simp [intOf]; omega
    · obtain rfl : k = g.length := by omega
      go_wp2
      go_ret
      exact ⟨ret_bool (covN_iff.2 HJ.out).symm, rfl⟩

set_option maxHeartbeats 2000000 in
theorem l2ApartT_c (v : Value) (g : List Int) (s : Nat) (w : World) (hv : Rd w v (marksTo g s g.length)) (hg : IsGraph g) (_ : s ≤ 4095) :
    Calls Try.prog 123 #[v, .int .i64 s, .bool true] w fun e w' => e = .returned (.bool (apartN g s true)) ∧ Ext w w' := by
  obtain ⟨a, c, rfl⟩ := hv.form
  rw [marksTo_length] at hv ⊢
  have HV := Lib.hid hv
  have hl := hg.le
  clear hv hg
  go_enter Try.func123, Try.ntmps123
  go_wp2
  go_loopw [7] (fun i wr => ∃ k : Nat, k ≤ g.length ∧ i = .int .i64 k ∧ Hid (∀ j, j < k → apartRow g s true j = true) ∧ Hid (Ext w wr)) (fun i _ => g.length - (intOf i).toNat)
  case atStart => exact ⟨0, Nat.zero_le _, rfl, fun j hj => absurd hj (Nat.not_lt_zero j), Ext.refl _⟩
  case round =>
    obtain ⟨i, hi, rfl, HI, HX⟩ := hrel
    by_cases hlt : i < g.length
    · go_wp2
      go_loopw [8] (fun q wr => ∃ k : Nat, k ≤ i ∧ q = .int .i64 k ∧ Hid (∀ j, j < k → (!sameP g s true i j) = true) ∧ Hid (Ext w wr)) (fun q _ => i - (intOf q).toNat)
      case atStart => exact ⟨0, Nat.zero_le _, rfl, fun j hj => absurd hj (Nat.not_lt_zero j), HX⟩
      case round =>
        clear HX
        obtain ⟨k, hk, rfl, HJ, HX⟩ := hrel
        by_cases hlk : k < i
        · obtain ⟨b, o, rfl, -, -, hc⟩ := HV.out.atI hlt
          have c1 := fun u => hc _ (HX.out.trans (clip_ext wr u))
          rw [show getI (marksTo g s g.length) i = ((markN g s i : Nat) : Int) from marksTo_get _ _ _ _ hlt] at c1
          obtain ⟨b', o', hbo, -, -, hc2⟩ := HV.out.atI (k := k) (by omega)
          obtain ⟨rfl, rfl⟩ : b = b' ∧ o = o' := by simpa using hbo
          have c2 := fun u => hc2 _ (HX.out.trans (clip_ext wr u))
          rw [show getI (marksTo g s g.length) k = ((markN g s k : Nat) : Int) from marksTo_get _ _ _ _ (by omega)] at c2
          obtain ⟨mi, hmi⟩ : ∃ m, m = markN g s i := ⟨_, rfl⟩
          obtain ⟨mk, hmk⟩ : ∃ m, m = markN g s k := ⟨_, rfl⟩
          rw [← hmi] at c1
          rw [← hmk] at c2
          have HMI := Lib.hid hmi; have HMK := Lib.hid hmk
          clear hc hc2 hbo hmi hmk
          by_cases he : mi = mk
          · have he' : ((mi : Int) == (mk : Int)) = true := by simp [he]
            have HF : Hid (apartN g s true = false) := by
              unfold Hid apartN
              refine bears_false hlt ?_
              unfold apartRow
              refine bears_false hlk ?_
              unfold sameP
              rw [Bool.true_or, ← HMI.out, ← HMK.out, decide_eq_true he]; rfl
            clear he
            go_wp2
            refine wp_region_ext (by kernel_rfl) (by kernel_rfl) ?_
            repeat (go_big_quiet_step (fail))
            refine wpQuiet_nil ?_
            rintro _ ⟨u, rfl⟩
            go_wp2
            go_ret
            exact ⟨ret_bool HF.out.symm, HX.out.trans (clip_ext _ _)⟩
          · have he' : ((mi : Int) == (mk : Int)) = false := by simp; omega
            have HN : Hid (sameP g s true i k = false) := by unfold Hid sameP; rw [← HMI.out, ← HMK.out, decide_eq_false he, Bool.and_false]
            clear he
            go_wp2
            refine wp_region_ext (by kernel_rfl) (by kernel_rfl) ?_
            repeat (go_big_quiet_step (fail))
            refine wpQuiet_nil ?_
            rintro _ ⟨u, rfl⟩
            go_wp2
            go_roundw
            case rel => exact ⟨k + 1, by omega, by go_num, fun j hj => by
              by_cases h : j = k
              · subst h; rw [HN.out]; rfl
              · exact HJ.out j (by omega), HX.out.trans (clip_ext _ _)⟩
            case measure => simp [intOf]; omega
        · obtain rfl : k = i := by omega
          go_wp2
          go_roundw
          case rel => exact ⟨k + 1, by omega, by go_num, fun j hj => by
            by_cases h : j = k
            · subst h; exact bears_true HJ.out
            · exact HI.out j (by omega), HX⟩
          case measure => simp [intOf]; omega
    · obtain rfl : i = g.length := by omega
      go_wp2
      go_ret
      exact ⟨ret_bool (bears_true HI.out).symm, HX.out⟩

set_option maxHeartbeats 2000000 in
theorem l2ApartF_c (v : Value) (g : List Int) (s : Nat) (w : World) (hv : Rd w v (marksTo g s g.length)) (hg : IsGraph g) (hs : s ≤ 4095) :
    Calls Try.prog 123 #[v, .int .i64 s, .bool false] w fun e w' => e = .returned (.bool (apartN g s false)) ∧ Ext w w' := by
  obtain ⟨a, c, rfl⟩ := hv.form
  rw [marksTo_length] at hv ⊢
  have HV := Lib.hid hv
  have hl := hg.le
  clear hv hg
  go_enter Try.func123, Try.ntmps123
  go_wp2
  go_loopw [7] (fun i wr => ∃ k : Nat, k ≤ g.length ∧ i = .int .i64 k ∧ Hid (∀ j, j < k → apartRow g s false j = true) ∧ Hid (Ext w wr)) (fun i _ => g.length - (intOf i).toNat)
  case atStart => exact ⟨0, Nat.zero_le _, rfl, fun j hj => absurd hj (Nat.not_lt_zero j), Ext.refl _⟩
  case round =>
    obtain ⟨i, hi, rfl, HI, HX⟩ := hrel
    by_cases hlt : i < g.length
    · go_wp2
      go_loopw [8] (fun q wr => ∃ k : Nat, k ≤ i ∧ q = .int .i64 k ∧ Hid (∀ j, j < k → (!sameP g s false i j) = true) ∧ Hid (Ext w wr)) (fun q _ => i - (intOf q).toNat)
      case atStart => exact ⟨0, Nat.zero_le _, rfl, fun j hj => absurd hj (Nat.not_lt_zero j), HX⟩
      case round =>
        clear HX
        obtain ⟨k, hk, rfl, HJ, HX⟩ := hrel
        by_cases hlk : k < i
        · obtain ⟨b, o, rfl, -, -, hc⟩ := HV.out.atI hlt
          have c1 := fun u => hc _ (HX.out.trans (clip_ext wr u))
          rw [show getI (marksTo g s g.length) i = ((markN g s i : Nat) : Int) from marksTo_get _ _ _ _ hlt] at c1
          obtain ⟨b', o', hbo, -, -, hc2⟩ := HV.out.atI (k := k) (by omega)
          obtain ⟨rfl, rfl⟩ : b = b' ∧ o = o' := by simpa using hbo
          have c2 := fun u => hc2 _ (HX.out.trans (clip_ext wr u))
          rw [show getI (marksTo g s g.length) k = ((markN g s k : Nat) : Int) from marksTo_get _ _ _ _ (by omega)] at c2
          obtain ⟨mi, hmi⟩ : ∃ m, m = markN g s i := ⟨_, rfl⟩
          obtain ⟨mk, hmk⟩ : ∃ m, m = markN g s k := ⟨_, rfl⟩
          rw [← hmi] at c1
          rw [← hmk] at c2
          have HMI := Lib.hid hmi; have HMK := Lib.hid hmk
          clear hc hc2 hbo hmi hmk
          have HTI := Lib.hid (l1Bit_c s i (by omega) (by omega))
          have HTK := Lib.hid (l1Bit_c s k (by omega) (by omega))
          cases hbi : s.testBit i
          · cases hbk : s.testBit k
            · rw [hbi] at HTI
              rw [hbk] at HTK
              have HBI := Lib.hid hbi; have HBK := Lib.hid hbk
              clear hbi hbk
              by_cases he : mi = mk
              · have he' : ((mi : Int) == (mk : Int)) = true := by simp [he]
                have HF : Hid (apartN g s false = false) := by
                  unfold Hid apartN
                  refine bears_false hlt ?_
                  unfold apartRow
                  refine bears_false hlk ?_
                  unfold sameP
                  rw [HBI.out, HBK.out, ← HMI.out, ← HMK.out, decide_eq_true he]; rfl
                clear he
                go_wp2_with (first | (go_at_call 48; with_reducible refine (HTI.out _).mono ?_; rintro e w' ⟨rfl, rfl⟩) | (go_at_call 48; with_reducible refine (HTK.out _).mono ?_; rintro e w' ⟨rfl, rfl⟩))
                refine wp_region_ext (by kernel_rfl) (by kernel_rfl) ?_
                repeat (go_big_quiet_step (fail))
                refine wpQuiet_nil ?_
                rintro _ ⟨u, rfl⟩
                go_wp2
                go_ret
                exact ⟨ret_bool HF.out.symm, HX.out.trans (clip_ext _ _)⟩
              · have he' : ((mi : Int) == (mk : Int)) = false := by simp; omega
                have HN : Hid (sameP g s false i k = false) := by unfold Hid sameP; rw [← HMI.out, ← HMK.out, decide_eq_false he, Bool.and_false]
                clear he
                go_wp2_with (first | (go_at_call 48; with_reducible refine (HTI.out _).mono ?_; rintro e w' ⟨rfl, rfl⟩) | (go_at_call 48; with_reducible refine (HTK.out _).mono ?_; rintro e w' ⟨rfl, rfl⟩))
                refine wp_region_ext (by kernel_rfl) (by kernel_rfl) ?_
                repeat (go_big_quiet_step (fail))
                refine wpQuiet_nil ?_
                rintro _ ⟨u, rfl⟩
                go_wp2
                go_roundw
                case rel => exact ⟨k + 1, by omega, by go_num, fun j hj => by
                  by_cases h : j = k
                  · subst h; rw [HN.out]; rfl
                  · exact HJ.out j (by omega), HX.out.trans (clip_ext _ _)⟩
                case measure => simp [intOf]; omega
            · rw [hbi] at HTI
              rw [hbk] at HTK
              have HBI := Lib.hid hbi; have HBK := Lib.hid hbk
              clear hbi hbk
              have HN : Hid (sameP g s false i k = false) := by unfold Hid sameP; rw [HBI.out, HBK.out]; rfl
              go_wp2_with (first | (go_at_call 48; with_reducible refine (HTI.out _).mono ?_; rintro e w' ⟨rfl, rfl⟩) | (go_at_call 48; with_reducible refine (HTK.out _).mono ?_; rintro e w' ⟨rfl, rfl⟩))
              refine wp_region_ext (by kernel_rfl) (by kernel_rfl) ?_
              repeat (go_big_quiet_step (fail))
              refine wpQuiet_nil ?_
              rintro _ ⟨u, rfl⟩
              go_wp2
              go_roundw
              case rel => exact ⟨k + 1, by omega, by go_num, fun j hj => by
                by_cases h : j = k
                · subst h; rw [HN.out]; rfl
                · exact HJ.out j (by omega), HX.out.trans (clip_ext _ _)⟩
              case measure => simp [intOf]; omega
          · rw [hbi] at HTI
            have HBI := Lib.hid hbi
            clear hbi
            have HN : Hid (sameP g s false i k = false) := by unfold Hid sameP; rw [HBI.out]; rfl
            go_wp2_with (first | (go_at_call 48; with_reducible refine (HTI.out _).mono ?_; rintro e w' ⟨rfl, rfl⟩) | (go_at_call 48; with_reducible refine (HTK.out _).mono ?_; rintro e w' ⟨rfl, rfl⟩))
            refine wp_region_ext (by kernel_rfl) (by kernel_rfl) ?_
            repeat (go_big_quiet_step (fail))
            refine wpQuiet_nil ?_
            rintro _ ⟨u, rfl⟩
            go_wp2
            go_roundw
            case rel => exact ⟨k + 1, by omega, by go_num, fun j hj => by
              by_cases h : j = k
              · subst h; rw [HN.out]; rfl
              · exact HJ.out j (by omega), HX.out.trans (clip_ext _ _)⟩
            case measure => simp [intOf]; omega
        · obtain rfl : k = i := by omega
          go_wp2
          go_roundw
          case rel => exact ⟨k + 1, by omega, by go_num, fun j hj => by
            by_cases h : j = k
            · subst h; exact bears_true HJ.out
            · exact HI.out j (by omega), HX⟩
          case measure => simp [intOf]; omega
    · obtain rfl : i = g.length := by omega
      go_wp2
      go_ret
      exact ⟨ret_bool (bears_true HI.out).symm, HX.out⟩

end Go.Proofs.Ytpmammklklkheaa

/- The set with the fewest nodes for which something holds. The condition: at most 4096 sets. -/
namespace Go.Proofs.Ytpmammklklkheaa
open Go.RowKit
open BigFrame

def lo (p : Nat → Bool) : Nat → Option Nat
  | 0 => none
  | k + 1 => match lo p k with
    | none => if p k then some k else none
    | some b => if decide (cnt k < cnt b) && p k then some k else some b
theorem lo_none {p : Nat → Bool} {k : Nat} (h : lo p k = none) : lo p (k + 1) = if p k then some k else none := by rw [lo, h]
theorem lo_some {p : Nat → Bool} {k b : Nat} (h : lo p k = some b) : lo p (k + 1) = if decide (cnt k < cnt b) && p k then some k else some b := by rw [lo, h]
theorem lo_lt {p : Nat → Bool} : ∀ (k : Nat) (b : Nat), lo p k = some b → b < k
  | 0, b, h => by cases h
  | k + 1, b, h => by
    cases e : lo p k with
    | none =>
      rw [lo_none e] at h
      split at h
      · cases h; omega
      · cases h
    | some c =>
      have h1 := lo_lt k c e
      rw [lo_some e] at h
      split at h
      · cases h; omega
      · cases h; omega
def loP (o : Option Nat) : Int × Bool := match o with
  | some b => (((b : Nat) : Int), true)
  | none => (0, false)

set_option maxHeartbeats 2000000 in
theorem least_c (N K : Nat) (cap : Array Value) (p : Nat → Bool) (w : World) (h1 : 1 ≤ N) (hN : N ≤ 4096)
    (eg : ∀ args w, (callFunc K args).run Try.prog w = .ok (.enter K args) w)
    (hf : ∀ k, k < N → ∀ w', Ext w w' → Calls Try.prog K (#[.int .i64 (k : Nat)] ++ cap) w' fun e w'' => e = .returned (.bool (p k)) ∧ Ext w' w'') :
    Calls Try.prog 95 #[.int .i64 ((N - 1 : Nat) : Int), .func (.func K) #[] cap] w fun e w' => e = .returned (pairV (loP (lo p N))) ∧ Ext w w' := by
  obtain ⟨M, rfl⟩ : ∃ M, N = M + 1 := ⟨N - 1, by omega⟩
  rw [Nat.add_sub_cancel]
  have HF := Lib.hid hf; clear hf h1
  go_enter Try.func95, Try.ntmps95
  go_wp2
  go_loopw [6, 7, 8] (fun b f i wr => ∃ (k z : Nat) (q : Bool), k ≤ M + 1 ∧ i = .int .i64 k ∧ b = .int .i64 z ∧ f = .bool q ∧ Hid ((lo p k = none ∧ z = 0 ∧ q = false) ∨ (lo p k = some z ∧ q = true ∧ z ≤ 4095)) ∧ Ext w wr) (fun _ _ i _ => M + 1 - (intOf i).toNat)
  case atStart => exact ⟨0, 0, false, Nat.zero_le _, rfl, rfl, rfl, .inl ⟨rfl, rfl, rfl⟩, Ext.refl _⟩
  case round =>
    obtain ⟨k, z, q, hk, rfl, rfl, rfl, HL, hx⟩ := hrel
    have HX := Lib.hid hx; clear hx
    by_cases hlt : k ≤ M
    · have HF1 := HF.out k (by omega) wr HX.out
      have k4 : k ≤ 4095 := by omega
      have HS := Lib.hid fun w => sizeC k k4 w
      rcases HL.out with ⟨h1, rfl, rfl⟩ | ⟨h1, rfl, hz4⟩
      · have HN := Lib.hid (lo_none h1); clear h1 HL
        cases hp : p k <;> rw [hp] at HF1
        · have HP := Lib.hid hp; clear hp
          go_wp2_with fail
          refine HF1.mono ?_
          rintro e w' ⟨rfl, hx'⟩
          go_wp2
          go_roundw
          case rel => exact ⟨k + 1, 0, false, by omega, by go_num, rfl, rfl, .inl ⟨by rw [HN.out, HP.out]; rfl, rfl, rfl⟩, HX.out.trans hx'⟩
          case measure => simp [intOf]; omega
        · have HP := Lib.hid hp; clear hp
          go_wp2_with fail
          refine HF1.mono ?_
          rintro e w' ⟨rfl, hx'⟩
          go_wp2
          go_roundw
          case rel => exact ⟨k + 1, k, true, by omega, by go_num, rfl, rfl, .inr ⟨by rw [HN.out, HP.out]; rfl, rfl, k4⟩, HX.out.trans hx'⟩
          case measure => simp [intOf]; omega
      · have HN := Lib.hid (lo_some h1); have H1 := Lib.hid h1; clear h1 HL
        have HZ := Lib.hid fun w => sizeC z hz4 w
        by_cases hc : cnt k < cnt z
        · have HC := Lib.hid (decide_eq_true hc)
          have HT : Hid (∀ w, Calls Try.prog 57 #[.int .i64 k] w fun e w' => e = .returned (.int .i64 (cnt k : Nat)) ∧ w = w') := HS.out
          cases hp : p k <;> rw [hp] at HF1
          · have HP := Lib.hid hp; clear hp
            have HFh := Lib.hid HF1; clear HF1
            go_wp2_with (first | (go_at_call 57; with_reducible refine (HT.out _).mono ?_; rintro e w' ⟨rfl, rfl⟩) | (go_at_call 57; with_reducible refine (HZ.out _).mono ?_; rintro e w' ⟨rfl, rfl⟩))
            refine HFh.out.mono ?_
            rintro e w' ⟨rfl, hx'⟩
            go_wp2
            go_roundw
            case rel => exact ⟨k + 1, z, true, by omega, by go_num, rfl, rfl, .inr ⟨by rw [HN.out, HP.out, Bool.and_false]; rfl, rfl, hz4⟩, HX.out.trans hx'⟩
            case measure => simp [intOf]; omega
          · have HP := Lib.hid hp; clear hp
            have HFh := Lib.hid HF1; clear HF1
            go_wp2_with (first | (go_at_call 57; with_reducible refine (HT.out _).mono ?_; rintro e w' ⟨rfl, rfl⟩) | (go_at_call 57; with_reducible refine (HZ.out _).mono ?_; rintro e w' ⟨rfl, rfl⟩))
            refine HFh.out.mono ?_
            rintro e w' ⟨rfl, hx'⟩
            go_wp2
            go_roundw
            case rel => exact ⟨k + 1, k, true, by omega, by go_num, rfl, rfl, .inr ⟨by rw [HN.out, HP.out, HC.out]; rfl, rfl, k4⟩, HX.out.trans hx'⟩
            case measure => simp [intOf]; omega
        · have HC := Lib.hid (decide_eq_false hc)
          clear HF1
          go_wp2_with (first | (go_at_call 57; with_reducible refine (HS.out _).mono ?_; rintro e w' ⟨rfl, rfl⟩) | (go_at_call 57; with_reducible refine (HZ.out _).mono ?_; rintro e w' ⟨rfl, rfl⟩))
          go_roundw
          case rel => exact ⟨k + 1, z, true, by omega, by go_num, rfl, rfl, .inr ⟨by rw [HN.out, HC.out]; rfl, rfl, hz4⟩, HX.out⟩
          case measure => simp [intOf]; omega
    · obtain rfl : k = M + 1 := by omega
      go_wp2
      go_ret2
      refine ⟨?_, HX.out⟩
      rcases HL.out with ⟨h1, rfl, rfl⟩ | ⟨h1, rfl, hz4⟩
      · rw [h1]; rfl
      · rw [h1]; rfl
end Go.Proofs.Ytpmammklklkheaa

/- What questions and answers leave: the reference and the program compute the same plain function. The condition: both lists have at most 2^20 numbers. -/
namespace Go.Proofs.Ytpmammklklkheaa
open Go.RowKit
open BigFrame

def byteAt (s : ByteArray) (k : Nat) : Nat := if h : k < s.size then (s[k]'h).toNat else 0
/-- What is left behind one question. -/
def foundNext (g : List Int) (s : Nat) (x : Int) (c : Nat) : Option Nat :=
  if inB 0 x ((g.length : Int) - 1) then if c = 121 then some (qIn g s x.toNat) else if c = 110 then some (without s (qIn g s x.toNat)) else none else none
def foundTo (g asked : List Int) (said : ByteArray) : Nat → Option Nat
  | 0 => some (2 ^ g.length - 1)
  | k + 1 => (foundTo g asked said k).bind fun s => foundNext g s (getI asked k) (byteAt said k)
theorem foundTo_none {g asked : List Int} {said : ByteArray} {k : Nat} (h : foundTo g asked said k = none) : ∀ d, foundTo g asked said (k + d) = none
  | 0 => h
  | d + 1 => by
    have := foundTo_none h d
    show (foundTo g asked said (k + d)).bind _ = none
    rw [this]; rfl
def pairOf : Option Nat → Int × Bool
  | some s => ((s : Nat), true)
  | none => (0, false)
def askFound (g asked : List Int) (said : ByteArray) : Int × Bool :=
  if graphIn g && decide (asked.length = said.size) && decide (asked.length ≤ 20) then pairOf (foundTo g asked said asked.length) else (0, false)
theorem foundNext_le {g : List Int} {s t : Nat} {x : Int} {c : Nat} (hs : s ≤ 4095) (h : foundNext g s x c = some t) : t ≤ 4095 := by
  unfold foundNext at h
  split at h
  · split at h
    · cases h; exact Nat.le_trans (qIn_le _ _ _) hs
    · split at h
      · cases h; exact without_le _ _ hs
      · cases h
  · cases h
theorem found_stop {g asked : List Int} {said : ByteArray} {k s : Nat} (hk : k < asked.length) (h : foundTo g asked said k = some s) (h' : foundNext g s (getI asked k) (byteAt said k) = none) :
    pairOf (foundTo g asked said asked.length) = (0, false) := by
  have e : foundTo g asked said (k + 1) = none := by show (foundTo g asked said k).bind _ = none; rw [h]; exact h'
  have := foundTo_none e (asked.length - (k + 1))
  rw [show k + 1 + (asked.length - (k + 1)) = asked.length from by omega] at this
  rw [this]; rfl
theorem found_go {g asked : List Int} {said : ByteArray} {k s t : Nat} (h : foundTo g asked said k = some s) (h' : foundNext g s (getI asked k) (byteAt said k) = some t) : foundTo g asked said (k + 1) = some t := by
  show (foundTo g asked said k).bind _ = some t
  rw [h]; exact h'

theorem all_c (v : Value) (g : List Int) (w : World) (hv : Rd w v g) (hg : g.length ≤ 12) :
    Calls Try.prog 96 #[v] w fun e w' => e = .returned (.int .i64 ((2 ^ g.length - 1 : Nat) : Int)) ∧ w = w' := by
  obtain ⟨a, c, rfl⟩ := hv.form
  clear hv
  obtain ⟨p, hp, hp1, hp2, hp3⟩ := pow_var g.length (by omega)
  have e0 : min g.length 64 = g.length := by omega
  rw [hp]
  clear hp
  go_enter Try.func96, Try.ntmps96
  go_wp2
  go_ret
  exact ⟨ret_int (by omega), rfl⟩

end Go.Proofs.Ytpmammklklkheaa

/- The least code that bears wrong sensors: the reference and the program compute the same plain function. The condition: the list has at most 2^20 numbers. -/
namespace Go.Proofs.Ytpmammklklkheaa
open Go.RowKit
open BigFrame

def sensorLeast (g : List Int) (t : Int) : Int × Bool := if graphIn g && inB 0 t 4 then loP (lo (fun s => bearsN g s t.toNat) (2 ^ g.length)) else (0, false)
/-- What the reference knows behind k sets. -/
def LoAt (p : Nat → Bool) (n k z m : Nat) : Prop := (lo p k = none ∧ z = 0 ∧ m = n + 1) ∨ (lo p k = some z ∧ m = cnt z ∧ z < k)
theorem LoAt.fin {p : Nat → Bool} {n k z m : Nat} (h : LoAt p n k z m) (hk : k ≤ 2 ^ n) : loP (lo p k) = (((z : Nat) : Int), decide (m ≤ n)) := by
  rcases h with ⟨h1, rfl, rfl⟩ | ⟨h1, rfl, h2⟩
  · rw [h1, decide_eq_false (by omega)]; rfl
  · rw [h1, decide_eq_true (cnt_lt_of_lt (show z < 2 ^ n by omega))]; rfl
theorem LoAt.take {p : Nat → Bool} {n k z m : Nat} (h : LoAt p n k z m) (_ : k < 2 ^ n) (hc : cnt k < m) (hp : p k = true) : LoAt p n (k + 1) k (cnt k) := by
  refine .inr ⟨?_, rfl, by omega⟩
  rcases h with ⟨h1, rfl, rfl⟩ | ⟨h1, rfl, h2⟩
  · rw [lo_none h1, hp]; rfl
  · rw [lo_some h1, hp, decide_eq_true hc]; rfl
theorem LoAt.skip {p : Nat → Bool} {n k z m : Nat} (h : LoAt p n k z m) (hk : k < 2 ^ n) (hp : ¬ cnt k < m ∨ p k = false) : LoAt p n (k + 1) z m := by
  have hle := cnt_lt_of_lt hk
  rcases h with ⟨h1, rfl, rfl⟩ | ⟨h1, rfl, h2⟩
  · refine .inl ⟨?_, rfl, rfl⟩
    rcases hp with hp | hp
    · omega
    · rw [lo_none h1, hp]; rfl
  · refine .inr ⟨?_, rfl, by omega⟩
    rcases hp with hp | hp
    · rw [lo_some h1, decide_eq_false hp]; rfl
    · rw [lo_some h1, hp, Bool.and_false]; rfl

end Go.Proofs.Ytpmammklklkheaa

/- Codes by the reference: resolving codes; whether a set is a code of a kind; the least code. The condition: the list has at most 2^20 numbers. -/
namespace Go.Proofs.Ytpmammklklkheaa
open Go.RowKit
open BigFrame

theorem any_succ (p : Nat → Bool) (c : Nat) : (List.range (c + 1)).any p = ((List.range c).any p || p c) := by
  rw [List.range_succ, List.any_append]; simp
theorem any_more {p : Nat → Bool} {c n : Nat} (h : c ≤ n) (ht : (List.range c).any p = true) : (List.range n).any p = true := by
  rw [List.any_eq_true] at ht ⊢
  obtain ⟨x, hx, hp⟩ := ht
  exact ⟨x, List.mem_range.2 (by have := List.mem_range.1 hx; omega), hp⟩

set_option maxRecDepth 100000 in
set_option maxHeartbeats 4000000 in
theorem l2Resolves_c (v : Value) (vs : List Value) (g : List Int) (s : Nat) (w : World) (ht : IsTab w g v vs) (hg : IsGraph g) (hs : s ≤ 4095) :
    Calls Try.prog 124 #[v, .int .i64 s] w fun e w' => e = .returned (.bool (resN g s)) ∧ Ext w w' := by
  obtain ⟨bt, ct, rfl, hbt, hget⟩ := ht.get hg
  have HT := Lib.hid hget
  have hl := hg.le
  clear ht hg hget
  go_enter Try.func124, Try.ntmps124
  go_wp2
  go_loopw [5] (fun i wr => ∃ k : Nat, k ≤ g.length ∧ i = .int .i64 k ∧ Hid (∀ j, j < k → resRow g s j = true) ∧ Hid (Ext w wr)) (fun i _ => g.length - (intOf i).toNat)
  case atStart => exact ⟨0, Nat.zero_le _, rfl, fun j hj => absurd hj (Nat.not_lt_zero j), Ext.refl _⟩
  case round =>
    obtain ⟨i, hi, rfl, HI, HX⟩ := hrel
    by_cases hlt : i < g.length
    · go_wp2
      go_loopw [6] (fun q wr => ∃ k : Nat, k ≤ i ∧ q = .int .i64 k ∧ Hid (∀ j, j < k → resP g s i j = true) ∧ Hid (Ext w wr)) (fun q _ => i - (intOf q).toNat)
      case atStart => exact ⟨0, Nat.zero_le _, rfl, fun j hj => absurd hj (Nat.not_lt_zero j), HX⟩
      case round =>
        clear HX
        obtain ⟨k, hk, rfl, HJ, HX⟩ := hrel
        by_cases hlk : k < i
        · go_wp2
          go_loopw [7, 8] (fun f q wr => ∃ (c : Nat) (ok : Bool), c ≤ g.length ∧ f = .bool ok ∧ q = .int .i64 c ∧ Hid (ok = (List.range c).any (farP g s i k)) ∧ Hid (Ext w wr)) (fun _ q _ => g.length - (intOf q).toNat)
          case atStart => exact ⟨0, false, Nat.zero_le _, rfl, rfl, rfl, HX⟩
          case round =>
            clear HX
            obtain ⟨c, ok, hc, rfl, rfl, HOK, HX⟩ := hrel
            cases hok : ok
            · rw [hok] at HOK
              clear hok
              by_cases hlc : c < g.length
              · obtain ⟨ri, oi, ci, hi1, hi2⟩ := HT.out i hlt
                obtain ⟨rk, ok', ck, hk1, hk2⟩ := HT.out k (by omega)
                have c1 := fun u => hi1 _ (HX.out.trans (clip_ext wr u))
                have c2 := fun u => hi2 c hlc _ (HX.out.trans (clip_ext wr u))
                have c3 := fun u => hk1 _ (HX.out.trans (clip_ext wr u))
                have c4 := fun u => hk2 c hlc _ (HX.out.trans (clip_ext wr u))
                have hd1 := dd_le g i c
                have hd2 := dd_le g k c
                obtain ⟨di, hdi⟩ : ∃ d, d = dd g i c := ⟨_, rfl⟩
                obtain ⟨dk, hdk⟩ : ∃ d, d = dd g k c := ⟨_, rfl⟩
                rw [← hdi] at c2 hd1
                rw [← hdk] at c4 hd2
                have HDI := Lib.hid hdi; have HDK := Lib.hid hdk
                have HBT := Lib.hid (l1Bit_c s c (by omega) (by omega))
                clear hi1 hi2 hk1 hk2 hdi hdk
                cases hbs : s.testBit c
                · have HFP : Hid (farP g s i k c = false) := by unfold Hid farP; rw [hbs]; rfl
                  rw [hbs] at HBT
                  clear hbs
                  go_wp2
                  refine wp_region_ext (by kernel_rfl) (by kernel_rfl) ?_
                  repeat (go_big_quiet_step ((go_at_call 48; exact Calls.clip_same (HBT.out _))))
                  refine wpQuiet_nil ?_
                  rintro _ ⟨u, rfl⟩
                  go_wp2
                  go_roundw
                  case rel => exact ⟨c + 1, _, by omega, rfl, by go_num, by unfold Hid; rw [any_succ, ← HOK.out, HFP.out]; rfl, HX.out.trans (clip_ext _ _)⟩
                  case measure => simp [intOf]; omega
                · rw [hbs] at HBT
                  by_cases he : di = dk
                  · have he' : ((di : Int) != (dk : Int)) = false := by simp [he]
                    have HFP : Hid (farP g s i k c = false) := by unfold Hid farP; rw [← HDI.out, ← HDK.out]; simp [he]
                    clear hbs he
                    go_wp2
                    refine wp_region_ext (by kernel_rfl) (by kernel_rfl) ?_
                    repeat (go_big_quiet_step ((go_at_call 48; exact Calls.clip_same (HBT.out _))))
                    refine wpQuiet_nil ?_
                    rintro _ ⟨u, rfl⟩
                    go_wp2
                    go_roundw
                    case rel => exact ⟨c + 1, _, by omega, rfl, by go_num, by unfold Hid; rw [any_succ, ← HOK.out, HFP.out]; rfl, HX.out.trans (clip_ext _ _)⟩
                    case measure => simp [intOf]; omega
                  · have he' : ((di : Int) != (dk : Int)) = true := by simp; omega
                    have HFP : Hid (farP g s i k c = true) := by unfold Hid farP; rw [hbs, ← HDI.out, ← HDK.out]; simp [he]
                    clear hbs he
                    go_wp2
                    refine wp_region_ext (by kernel_rfl) (by kernel_rfl) ?_
                    repeat (go_big_quiet_step ((go_at_call 48; exact Calls.clip_same (HBT.out _))))
                    refine wpQuiet_nil ?_
                    rintro _ ⟨u, rfl⟩
                    go_wp2
                    go_roundw
                    case rel => exact ⟨c + 1, _, by omega, rfl, by go_num, by unfold Hid; rw [any_succ, ← HOK.out, HFP.out]; rfl, HX.out.trans (clip_ext _ _)⟩
                    case measure => simp [intOf]; omega
              · obtain rfl : c = g.length := by omega
                have HF : Hid (resN g s = false) := by
                  unfold Hid resN
                  refine bears_false hlt ?_
                  unfold resRow
                  exact bears_false hlk HOK.out.symm
                go_wp2
                go_ret
                exact ⟨ret_bool HF.out.symm, HX.out⟩
            · rw [hok] at HOK
              clear hok
              have HT1 : Hid (resP g s i k = true) := any_more hc HOK.out.symm
              by_cases hlc : c < g.length
              · go_wp2
                go_roundw
                case rel => exact ⟨k + 1, by omega, by go_num, fun j hj => by
                  by_cases h : j = k
                  · subst h; exact HT1.out
                  · exact HJ.out j (by omega), HX⟩
                case measure => simp [intOf]; omega
              · go_wp2
                go_roundw
                case rel => exact ⟨k + 1, by omega, by go_num, fun j hj => by
                  by_cases h : j = k
                  · subst h; exact HT1.out
                  · exact HJ.out j (by omega), HX⟩
                case measure => simp [intOf]; omega
        · obtain rfl : k = i := by omega
          go_wp2
          go_roundw
          case rel => exact ⟨k + 1, by omega, by go_num, fun j hj => by
            by_cases h : j = k
            · subst h; exact bears_true HJ.out
            · exact HI.out j (by omega), HX⟩
          case measure => simp [intOf]; omega
    · obtain rfl : i = g.length := by omega
      go_wp2
      go_ret
      exact ⟨ret_bool (bears_true HI.out).symm, HX.out⟩

set_option maxHeartbeats 1000000 in
theorem l2In_c (v vt : Value) (vs : List Value) (g : List Int) (K s : Nat) (w : World) (hv : Rd w v g) (ht : IsTab w g vt vs) (hg : IsGraph g) (hs : s ≤ 4095) (hK : K ≤ 3) :
    Calls Try.prog 108 #[v, vt, .int .i64 K, .int .i64 s] w fun e w' => e = .returned (.bool (kindN g K s)) ∧ Ext w w' := by
  obtain ⟨a, c, rfl⟩ := hv.form
  have HM := Lib.hid (l2Marks_c _ g s w hv hg hs)
  have HT := Lib.hid ht; have HG := Lib.hid hg
  clear hv ht hg
  have enter : ∀ (K : Nat), K ≤ 3 → kindN g K s = (if K = 0 then covN g s else if K = 1 then covN g s && apartN g s false else if K = 2 then covN g s && apartN g s true else resN g s) := fun _ _ => rfl
  rw [enter K hK]
  clear enter
  obtain rfl | rfl | rfl | rfl : K = 0 ∨ K = 1 ∨ K = 2 ∨ K = 3 := by omega
  · go_enter Try.func108, Try.ntmps108
    go_wp2_with fail
    refine HM.out.mono ?_
    rintro e w1 ⟨vm, rfl, om, x1⟩
    have OM := Lib.hid om.rd; have X1 := Lib.hid x1; clear om x1
    go_wp2_with (go_at_call 122; refine (l2Covers_c _ g s _ OM.out HG.out).mono ?_; rintro e w' ⟨rfl, rfl⟩)
    go_ret
    exact ⟨rfl, X1.out⟩
  · cases hc : covN g s
    · go_enter Try.func108, Try.ntmps108
      go_wp2_with fail
      refine HM.out.mono ?_
      rintro e w1 ⟨vm, rfl, om, x1⟩
      have OM := Lib.hid om.rd; have X1 := Lib.hid x1; clear om x1
      go_wp2_with (go_at_call 122; refine (l2Covers_c _ g s _ OM.out HG.out).mono ?_; rintro e w' ⟨rfl, rfl⟩)
      go_ret
      exact ⟨rfl, X1.out⟩
    · go_enter Try.func108, Try.ntmps108
      go_wp2_with fail
      refine HM.out.mono ?_
      rintro e w1 ⟨vm, rfl, om, x1⟩
      have OM := Lib.hid om.rd; have X1 := Lib.hid x1; clear om x1
      go_wp2_with (first | (go_at_call 122; refine (l2Covers_c _ g s _ OM.out HG.out).mono ?_; rintro e w' ⟨rfl, rfl⟩) | (go_at_call 123; refine (l2ApartF_c _ g s _ OM.out HG.out hs).mono ?_; rintro e w2 ⟨rfl, x2⟩))
      go_ret
      exact ⟨rfl, X1.out.trans (by assumption)⟩
  · cases hc : covN g s
    · go_enter Try.func108, Try.ntmps108
      go_wp2_with fail
      refine HM.out.mono ?_
      rintro e w1 ⟨vm, rfl, om, x1⟩
      have OM := Lib.hid om.rd; have X1 := Lib.hid x1; clear om x1
      go_wp2_with (go_at_call 122; refine (l2Covers_c _ g s _ OM.out HG.out).mono ?_; rintro e w' ⟨rfl, rfl⟩)
      go_ret
      exact ⟨rfl, X1.out⟩
    · go_enter Try.func108, Try.ntmps108
      go_wp2_with fail
      refine HM.out.mono ?_
      rintro e w1 ⟨vm, rfl, om, x1⟩
      have OM := Lib.hid om.rd; have X1 := Lib.hid x1; clear om x1
      go_wp2_with (first | (go_at_call 122; refine (l2Covers_c _ g s _ OM.out HG.out).mono ?_; rintro e w' ⟨rfl, rfl⟩) | (go_at_call 123; refine (l2ApartT_c _ g s _ OM.out HG.out hs).mono ?_; rintro e w2 ⟨rfl, x2⟩))
      go_ret
      exact ⟨rfl, X1.out.trans (by assumption)⟩
  · go_enter Try.func108, Try.ntmps108
    go_wp2_with fail
    refine HM.out.mono ?_
    rintro e w1 ⟨vm, rfl, om, x1⟩
    have X1 := Lib.hid x1
    clear om x1
    go_wp2_with (go_at_call 124; refine (l2Resolves_c _ vs g s _ (HT.out.ext X1.out) HG.out hs).mono ?_; rintro e w2 ⟨rfl, x2⟩)
    go_ret
    exact ⟨rfl, X1.out.trans (by assumption)⟩
end Go.Proofs.Ytpmammklklkheaa
