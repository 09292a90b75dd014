/- Codes by the reference: the table of distances; whether a set is a code of a kind. No condition. -/
import Derived.Test.YtpmammklklkheaaDistS
import Derived.Test.YtpmammklklkheaaCode
import Derived.Test.YtpmammklklkheaaBears
namespace Go.Proofs.Ytpmammklklkheaa
open Go.RowKit
open BigFrame

theorem wpList_append_row {ops : Array Oper} {rest : List Oper} {o : Oper} {a : Act} {Q : Exit → Act → World → Prop} {w : World} (hgd : o.guard = none) (s x : Operand)
    (ho : o.op = .call { callee := .builtin .append, args := #[s, x], argTypes := #[69, 69] })
    (base : Nat) (v : Value) (vs : List Value) (hs : a.eval s = v) (hown : OwnRows w base v vs) (g : Nat) (y : Value) (hy : y.oneCell' = true) (hx : a.eval x = .slice (some ⟨g, 0, none⟩) 1 1)
    (hc : w.cell? ⟨g, 0, none⟩ = some y) (hn : vs.length ≤ 1048576) (hb : base ≤ w.heap.size)
    (h : ∀ v' w', OwnRows w' base v' (vs ++ [y]) → w.grownBy w' v.ownBlock → wpList Try.prog ops Q rest (a.put o.dst v') w') : wpList Try.prog ops Q (o :: rest) a w := by
  obtain ⟨i0, hi, hz0, hz1, hz2⟩ := info_parts info_row
  refine wpList_append_lies w hgd s x 69 ho base 23 i0 (.slice none 0 0) 1 24 Try.underlying69 hi hz0 hz1 hz2 rfl (by decide) v vs.length _ hs hown ⟨g, 0, none⟩ 1 1 [y] hx rfl ?_ (fun u hu => by simp at hu; subst hu; exact hy) (by omega) (by unfold maxLen; omega) (by omega) hb _ rfl ?_
  · intro j u hu
    cases j with
    | zero => simp at hu; subst hu; exact hc
    | succ j => simp at hu
  · intro g' cap w' h1 h2 _ _
    refine h _ w' ?_ h2
    unfold OwnRows; simpa using h1
theorem OwnRows.lt {w : World} {base : Nat} {v : Value} {vs : List Value} (h : OwnRows w base v vs) : ∀ k, v.ownBlock = some k → base ≤ k ∧ k < w.heap.size := World.ownsRow.lt h
theorem OwnRows.at {w : World} {base : Nat} {v : Value} {vs : List Value} (h : OwnRows w base v vs) {i : Nat} (hi : i < vs.length) :
    ∃ b c, v = .slice (some ⟨b, 0, none⟩) vs.length c ∧ b < w.heap.size ∧ ∀ j, j < vs.length → w.cell? ⟨b, j, none⟩ = some (vs.getD j undef) := by
  have h0 := h
  obtain ⟨h1, ⟨hv, h2⟩ | ⟨g, cap, cur, hv, hg, hh, h3, h4, h5, h6⟩⟩ := h
  · omega
  · subst hv
    refine ⟨g, cap, rfl, (Array.getElem?_eq_some_iff.1 hh).1, fun j hj => ?_⟩
    rw [World.ownsRow.cellAt h0 j (by omega)]
    simp [hj]
/-- The table of all distances. -/
structure IsTab (w : World) (g : List Int) (v : Value) (vs : List Value) : Prop where
  own : ∃ base, OwnRows w base v vs
  len : vs.length = g.length
  row : ∀ i, i < g.length → Rd w (vs.getD i undef) (distOf g i)
theorem IsTab.ext {w w' : World} {g : List Int} {v : Value} {vs : List Value} (h : IsTab w g v vs) (hx : Ext w w') : IsTab w' g v vs :=
  ⟨h.own.imp fun _ h => h.ext hx, h.len, fun i hi => (h.row i hi).ext hx⟩
/-- Element c of row i. -/
theorem IsTab.get {w : World} {g : List Int} {v : Value} {vs : List Value} (h : IsTab w g v vs) (hg : IsGraph g) :
    ∃ b cap, v = .slice (some ⟨b, 0, none⟩) g.length cap ∧ b < w.heap.size ∧ ∀ i, i < g.length → ∃ r o cr, (∀ w', Ext w w' → w'.cell? ⟨b, i, none⟩ = some (.slice (some ⟨r, o, none⟩) g.length cr)) ∧ ∀ c, c < g.length → ∀ w', Ext w w' → w'.cell? ⟨r, o + c, none⟩ = some (.int .i64 (dd g i c : Nat)) := by
  obtain ⟨base, ho⟩ := h.own
  obtain ⟨b, cap, rfl, hb, hc⟩ := ho.at (i := 0) (by rw [h.len]; exact hg.pos)
  refine ⟨b, cap, by rw [h.len], hb, fun i hi => ?_⟩
  have hr := h.row i hi
  obtain ⟨a, cr, he⟩ := hr.form
  rw [dist_length hg hi] at he
  rw [he] at hr
  obtain ⟨r, o, rfl, -, -, -⟩ := hr.atI (k := 0) (by have := hg.pos; omega)
  refine ⟨r, o, cr, fun w' hx => (hx.cell hb).trans (by rw [hc i (by rw [h.len]; exact hi), he]), fun c hcl w' hx => ?_⟩
  obtain ⟨r', o', he', -, -, hcc⟩ := hr.atI hcl
  obtain ⟨rfl, rfl⟩ : r = r' ∧ o = o' := by simpa using he'
  rw [hcc w' hx]
  congr 2
  exact dist_get hg hi hcl

set_option maxRecDepth 100000 in
set_option maxHeartbeats 1000000 in
theorem l2Table_c (v : Value) (g : List Int) (w : World) (hv : Rd w v g) (hg : IsGraph g) :
    Calls Try.prog 109 #[v] w fun e w' => ∃ v' vs, e = .returned v' ∧ IsTab w' g v' vs ∧ Ext w w' := by
  obtain ⟨a, c, rfl⟩ := hv.form
  obtain ⟨W, hW⟩ : ∃ W, W = w.alloc (.cells #[] 23) := ⟨_, rfl⟩
  have ho0 : OwnRows W w.heap.size (.slice (some ⟨w.heap.size, 0, none⟩) 0 0) [] := by rw [hW]; exact World.ownsRow_lit w #[] 0 (Nat.le_refl _) (by unfold maxLen; omega) rfl
  have hx0 : Ext w W := by rw [hW]; exact (Ext.refl _).alloc _
  have hsW : w.heap.size < W.heap.size := by rw [hW]; simp
  have HW := Lib.hid hW; have HO0 := Lib.hid ho0; have HX0 := Lib.hid hx0; have HV := Lib.hid hv
  have HG := Lib.hid hg
  have hl := hg.le
  clear hv hW ho0 hx0 hg
  go_enter Try.func109, Try.ntmps109
  go_wp2
  rw [← HW.out]
  go_loopw [3, 4] (fun o i wr => ∃ (k : Nat) (vs : List Value), k ≤ g.length ∧ i = .int .i64 k ∧ vs.length = k ∧ Hid (OwnRows wr w.heap.size o vs) ∧ Hid (∀ i, i < k → ∃ base, Own wr base (vs.getD i undef) (distOf g i) ∧ ((vs.getD i undef).ownBlock = none ∨ (vs.getD i undef).ownBlock ≠ o.ownBlock)) ∧ Hid (Ext w wr) ∧ W.heap.size ≤ wr.heap.size) (fun _ i _ => g.length - (intOf i).toNat)
  case atStart => exact ⟨0, [], Nat.zero_le _, rfl, rfl, HO0.out, fun i hi => absurd hi (Nat.not_lt_zero i), HX0.out, Nat.le_refl _⟩
  case round =>
    clear HO0 HX0
    obtain ⟨k, vs, hk, rfl, hvs, HO, HE, HX, hsz⟩ := hrel
    by_cases hlt : k < g.length
    · go_wp2_with fail
      refine (l1Distances_c _ g k _ (HV.out.ext HX.out) HG.out hlt).mono ?_
      rintro e w2 ⟨vd, rfl, od, x2⟩
      have O2 := Lib.hid (HO.out.ext x2); have X2 := Lib.hid (HX.out.trans x2); have OD := Lib.hid od
      have E2 : Hid (∀ i, i < k → ∃ base, Own w2 base (vs.getD i undef) (distOf g i)) := fun i hi => by obtain ⟨base, h, _⟩ := HE.out i hi; exact ⟨base, h.ext x2⟩
      have hsz2 : W.heap.size ≤ w2.heap.size := Nat.le_trans hsz x2.size
      obtain ⟨gd, cd, rfl⟩ := od.form' (dist_length HG.out hlt)
      clear od x2
      go_wp2_with (at_builtin; refine wpList_append_row rfl _ _ rfl w.heap.size _ vs rfl (O2.out.ext ((Ext.refl _).alloc _)) w2.heap.size _ rfl rfl (one_cell _ _ _) (by omega) (by simp; have := X2.out.size; omega) ?_; intro v' w3 ho3 hg3)
      have X3 : Hid (Ext w w3) := (X2.out.alloc _).grown hg3 (fun b hb => (O2.out.lt b hb).1)
      have hsz3 : W.heap.size ≤ w3.heap.size := by have := hg3.size; simp at this; omega
      have O3 := Lib.hid ho3
      have E3 : Hid (∀ i, i < k + 1 → ∃ base, Own w3 base ((vs ++ [Value.slice gd g.length cd]).getD i undef) (distOf g i) ∧ (((vs ++ [Value.slice gd g.length cd]).getD i undef).ownBlock = none ∨ ((vs ++ [Value.slice gd g.length cd]).getD i undef).ownBlock ≠ v'.ownBlock)) := fun i hi => by
        have key : ∃ base, Own w2 base ((vs ++ [Value.slice gd g.length cd]).getD i undef) (distOf g i) := by
          by_cases h : i < k
          · obtain ⟨base, h1⟩ := E2.out i h
            exact ⟨base, by rw [List.getD_eq_getElem?_getD, List.getElem?_append_left (by omega), ← List.getD_eq_getElem?_getD]; exact h1⟩
          · obtain rfl : i = k := by omega
            exact ⟨_, by rw [List.getD_eq_getElem?_getD, List.getElem?_append_right (by omega), hvs]; simpa using OD.out⟩
        obtain ⟨base, h1⟩ := key
        have h2 := (h1.ext ((Ext.refl w2).alloc (.cells #[.slice gd g.length cd] 23)))
        have h3 := h2.kept hg3 (h2.apart (O2.out.ext ((Ext.refl _).alloc _)))
        exact ⟨base, h3, h3.apart ho3⟩
      clear ho3 hg3
      go_wp2
      go_roundw
      case rel => exact ⟨k + 1, _, by omega, by go_num, by simp [hvs], O3.out, E3.out, X3.out, hsz3⟩
      case measure => simp [intOf]; omega
    · obtain rfl : k = g.length := by omega
      go_wp2
      go_ret
      exact ⟨_, vs, rfl, ⟨⟨_, HO.out⟩, hvs, fun i hi => (HE.out i hi).elim fun _ h => h.1.rd⟩, HX.out⟩

set_option maxHeartbeats 1000000 in
theorem l2Covers_c (v : Value) (g : List Int) (s : Nat) (w : World) (hv : Rd w v (marksTo g s g.length)) (hg : IsGraph g) :
    Calls Try.prog 122 #[v] w fun e w' => e = .returned (.bool (covN g s)) ∧ w = w' := by
  obtain ⟨a, c, rfl⟩ := hv.form
  rw [marksTo_length] at hv ⊢
  have HV := Lib.hid hv
  have hl := hg.le
  clear hv hg
  go_enter Try.func122, Try.ntmps122
  go_wp2
  go_loop [3] (fun i => ∃ k : Nat, k ≤ g.length ∧ i = .int .i64 k ∧ Hid (∀ j, j < k → markN g s j ≠ 0)) (fun i => g.length - (intOf i).toNat)
  case atStart => exact ⟨0, Nat.zero_le _, rfl, fun j hj => absurd hj (Nat.not_lt_zero j)⟩
  case round =>
    obtain ⟨k, hk, rfl, HJ⟩ := hrel
    by_cases hlt : k < g.length
    · obtain ⟨b, o, rfl, -, -, hc⟩ := HV.out.atI hlt
      have c1 := hc _ (Ext.refl w)
      rw [show getI (marksTo g s g.length) k = ((markN g s k : Nat) : Int) from marksTo_get _ _ _ _ hlt] at c1
      obtain ⟨m, hm⟩ : ∃ m, m = markN g s k := ⟨_, rfl⟩
      rw [← hm] at c1
      have HM := Lib.hid hm
      clear hc hm
      by_cases hz : m = 0
      · have hz' : ((m : Int) == 0) = true := by simp [hz]
        have HF : Hid (covN g s = false) := by
          unfold Hid
          rw [← Bool.not_eq_true, covN_iff]
          exact fun h => h k hlt (HM.out.symm.trans hz)
        clear hz
        go_wp2
        go_ret
        exact ⟨ret_bool HF.out.symm, rfl⟩
      · have hz' : ((m : Int) == 0) = false := by simp [hz]
        have HZ := Lib.hid hz
        clear hz
        go_wp2
        go_round
        case rel => exact ⟨k + 1, by omega, by go_num, fun j hj => by
          by_cases h : j = k
          · subst h; rw [← HM.out]; exact HZ.out
          · exact HJ.out j (by omega)⟩
        case measure => simp [intOf]; omega
    · obtain rfl : k = g.length := by omega
      go_wp2
      go_ret
      exact ⟨ret_bool (covN_iff.2 HJ.out).symm, rfl⟩

set_option maxHeartbeats 2000000 in
theorem l2ApartT_c (v : Value) (g : List Int) (s : Nat) (w : World) (hv : Rd w v (marksTo g s g.length)) (hg : IsGraph g) (hs : s ≤ 4095) :
    Calls Try.prog 123 #[v, .int .i64 s, .bool true] w fun e w' => e = .returned (.bool (apartN g s true)) ∧ Ext w w' := by
  obtain ⟨a, c, rfl⟩ := hv.form
  rw [marksTo_length] at hv ⊢
  have HV := Lib.hid hv
  have hl := hg.le
  clear hv hg
  go_enter Try.func123, Try.ntmps123
  go_wp2
  go_loopw [7] (fun i wr => ∃ k : Nat, k ≤ g.length ∧ i = .int .i64 k ∧ Hid (∀ j, j < k → apartRow g s true j = true) ∧ Hid (Ext w wr)) (fun i _ => g.length - (intOf i).toNat)
  case atStart => exact ⟨0, Nat.zero_le _, rfl, fun j hj => absurd hj (Nat.not_lt_zero j), Ext.refl _⟩
  case round =>
    obtain ⟨i, hi, rfl, HI, HX⟩ := hrel
    by_cases hlt : i < g.length
    · go_wp2
      go_loopw [8] (fun q wr => ∃ k : Nat, k ≤ i ∧ q = .int .i64 k ∧ Hid (∀ j, j < k → (!sameP g s true i j) = true) ∧ Hid (Ext w wr)) (fun q _ => i - (intOf q).toNat)
      case atStart => exact ⟨0, Nat.zero_le _, rfl, fun j hj => absurd hj (Nat.not_lt_zero j), HX⟩
      case round =>
        clear HX
        obtain ⟨k, hk, rfl, HJ, HX⟩ := hrel
        by_cases hlk : k < i
        · obtain ⟨b, o, rfl, -, -, hc⟩ := HV.out.atI hlt
          have c1 := fun u => hc _ (HX.out.trans (clip_ext wr u))
          rw [show getI (marksTo g s g.length) i = ((markN g s i : Nat) : Int) from marksTo_get _ _ _ _ hlt] at c1
          obtain ⟨b', o', hbo, -, -, hc2⟩ := HV.out.atI (k := k) (by omega)
          obtain ⟨rfl, rfl⟩ : b = b' ∧ o = o' := by simpa using hbo
          have c2 := fun u => hc2 _ (HX.out.trans (clip_ext wr u))
          rw [show getI (marksTo g s g.length) k = ((markN g s k : Nat) : Int) from marksTo_get _ _ _ _ (by omega)] at c2
          obtain ⟨mi, hmi⟩ : ∃ m, m = markN g s i := ⟨_, rfl⟩
          obtain ⟨mk, hmk⟩ : ∃ m, m = markN g s k := ⟨_, rfl⟩
          rw [← hmi] at c1
          rw [← hmk] at c2
          have HMI := Lib.hid hmi; have HMK := Lib.hid hmk
          clear hc hc2 hbo hmi hmk
          by_cases he : mi = mk
          · have he' : ((mi : Int) == (mk : Int)) = true := by simp [he]
            have HF : Hid (apartN g s true = false) := by
              unfold Hid apartN
              refine bears_false hlt ?_
              unfold apartRow
              refine bears_false hlk ?_
              unfold sameP
              rw [Bool.true_or, ← HMI.out, ← HMK.out, decide_eq_true he]; rfl
            clear he
            go_wp2
            refine wp_region_ext (by kernel_rfl) (by kernel_rfl) ?_
            repeat (go_big_quiet_step (fail))
            refine wpQuiet_nil ?_
            rintro _ ⟨u, rfl⟩
            go_wp2
            go_ret
            exact ⟨ret_bool HF.out.symm, HX.out.trans (clip_ext _ _)⟩
          · have he' : ((mi : Int) == (mk : Int)) = false := by simp; omega
            have HN : Hid (sameP g s true i k = false) := by unfold Hid sameP; rw [← HMI.out, ← HMK.out, decide_eq_false he, Bool.and_false]
            clear he
            go_wp2
            refine wp_region_ext (by kernel_rfl) (by kernel_rfl) ?_
            repeat (go_big_quiet_step (fail))
            refine wpQuiet_nil ?_
            rintro _ ⟨u, rfl⟩
            go_wp2
            go_roundw
            case rel => exact ⟨k + 1, by omega, by go_num, fun j hj => by
              by_cases h : j = k
              · subst h; rw [HN.out]; rfl
              · exact HJ.out j (by omega), HX.out.trans (clip_ext _ _)⟩
            case measure => simp [intOf]; omega
        · obtain rfl : k = i := by omega
          go_wp2
          go_roundw
          case rel => exact ⟨k + 1, by omega, by go_num, fun j hj => by
            by_cases h : j = k
            · subst h; exact bears_true HJ.out
            · exact HI.out j (by omega), HX⟩
          case measure => simp [intOf]; omega
    · obtain rfl : i = g.length := by omega
      go_wp2
      go_ret
      exact ⟨ret_bool (bears_true HI.out).symm, HX.out⟩

set_option maxHeartbeats 2000000 in
theorem l2ApartF_c (v : Value) (g : List Int) (s : Nat) (w : World) (hv : Rd w v (marksTo g s g.length)) (hg : IsGraph g) (hs : s ≤ 4095) :
    Calls Try.prog 123 #[v, .int .i64 s, .bool false] w fun e w' => e = .returned (.bool (apartN g s false)) ∧ Ext w w' := by
  obtain ⟨a, c, rfl⟩ := hv.form
  rw [marksTo_length] at hv ⊢
  have HV := Lib.hid hv
  have hl := hg.le
  clear hv hg
  go_enter Try.func123, Try.ntmps123
  go_wp2
  go_loopw [7] (fun i wr => ∃ k : Nat, k ≤ g.length ∧ i = .int .i64 k ∧ Hid (∀ j, j < k → apartRow g s false j = true) ∧ Hid (Ext w wr)) (fun i _ => g.length - (intOf i).toNat)
  case atStart => exact ⟨0, Nat.zero_le _, rfl, fun j hj => absurd hj (Nat.not_lt_zero j), Ext.refl _⟩
  case round =>
    obtain ⟨i, hi, rfl, HI, HX⟩ := hrel
    by_cases hlt : i < g.length
    · go_wp2
      go_loopw [8] (fun q wr => ∃ k : Nat, k ≤ i ∧ q = .int .i64 k ∧ Hid (∀ j, j < k → (!sameP g s false i j) = true) ∧ Hid (Ext w wr)) (fun q _ => i - (intOf q).toNat)
      case atStart => exact ⟨0, Nat.zero_le _, rfl, fun j hj => absurd hj (Nat.not_lt_zero j), HX⟩
      case round =>
        clear HX
        obtain ⟨k, hk, rfl, HJ, HX⟩ := hrel
        by_cases hlk : k < i
        · obtain ⟨b, o, rfl, -, -, hc⟩ := HV.out.atI hlt
          have c1 := fun u => hc _ (HX.out.trans (clip_ext wr u))
          rw [show getI (marksTo g s g.length) i = ((markN g s i : Nat) : Int) from marksTo_get _ _ _ _ hlt] at c1
          obtain ⟨b', o', hbo, -, -, hc2⟩ := HV.out.atI (k := k) (by omega)
          obtain ⟨rfl, rfl⟩ : b = b' ∧ o = o' := by simpa using hbo
          have c2 := fun u => hc2 _ (HX.out.trans (clip_ext wr u))
          rw [show getI (marksTo g s g.length) k = ((markN g s k : Nat) : Int) from marksTo_get _ _ _ _ (by omega)] at c2
          obtain ⟨mi, hmi⟩ : ∃ m, m = markN g s i := ⟨_, rfl⟩
          obtain ⟨mk, hmk⟩ : ∃ m, m = markN g s k := ⟨_, rfl⟩
          rw [← hmi] at c1
          rw [← hmk] at c2
          have HMI := Lib.hid hmi; have HMK := Lib.hid hmk
          clear hc hc2 hbo hmi hmk
          have HTI := Lib.hid (l1Bit_c s i (by omega) (by omega))
          have HTK := Lib.hid (l1Bit_c s k (by omega) (by omega))
          cases hbi : s.testBit i
          · cases hbk : s.testBit k
            · rw [hbi] at HTI
              rw [hbk] at HTK
              have HBI := Lib.hid hbi; have HBK := Lib.hid hbk
              clear hbi hbk
              by_cases he : mi = mk
              · have he' : ((mi : Int) == (mk : Int)) = true := by simp [he]
                have HF : Hid (apartN g s false = false) := by
                  unfold Hid apartN
                  refine bears_false hlt ?_
                  unfold apartRow
                  refine bears_false hlk ?_
                  unfold sameP
                  rw [HBI.out, HBK.out, ← HMI.out, ← HMK.out, decide_eq_true he]; rfl
                clear he
                go_wp2_with (first | (go_at_call 48; with_reducible refine (HTI.out _).mono ?_; rintro e w' ⟨rfl, rfl⟩) | (go_at_call 48; with_reducible refine (HTK.out _).mono ?_; rintro e w' ⟨rfl, rfl⟩))
                refine wp_region_ext (by kernel_rfl) (by kernel_rfl) ?_
                repeat (go_big_quiet_step (fail))
                refine wpQuiet_nil ?_
                rintro _ ⟨u, rfl⟩
                go_wp2
                go_ret
                exact ⟨ret_bool HF.out.symm, HX.out.trans (clip_ext _ _)⟩
              · have he' : ((mi : Int) == (mk : Int)) = false := by simp; omega
                have HN : Hid (sameP g s false i k = false) := by unfold Hid sameP; rw [← HMI.out, ← HMK.out, decide_eq_false he, Bool.and_false]
                clear he
                go_wp2_with (first | (go_at_call 48; with_reducible refine (HTI.out _).mono ?_; rintro e w' ⟨rfl, rfl⟩) | (go_at_call 48; with_reducible refine (HTK.out _).mono ?_; rintro e w' ⟨rfl, rfl⟩))
                refine wp_region_ext (by kernel_rfl) (by kernel_rfl) ?_
                repeat (go_big_quiet_step (fail))
                refine wpQuiet_nil ?_
                rintro _ ⟨u, rfl⟩
                go_wp2
                go_roundw
                case rel => exact ⟨k + 1, by omega, by go_num, fun j hj => by
                  by_cases h : j = k
                  · subst h; rw [HN.out]; rfl
                  · exact HJ.out j (by omega), HX.out.trans (clip_ext _ _)⟩
                case measure => simp [intOf]; omega
            · rw [hbi] at HTI
              rw [hbk] at HTK
              have HBI := Lib.hid hbi; have HBK := Lib.hid hbk
              clear hbi hbk
              have HN : Hid (sameP g s false i k = false) := by unfold Hid sameP; rw [HBI.out, HBK.out]; rfl
              go_wp2_with (first | (go_at_call 48; with_reducible refine (HTI.out _).mono ?_; rintro e w' ⟨rfl, rfl⟩) | (go_at_call 48; with_reducible refine (HTK.out _).mono ?_; rintro e w' ⟨rfl, rfl⟩))
              refine wp_region_ext (by kernel_rfl) (by kernel_rfl) ?_
              repeat (go_big_quiet_step (fail))
              refine wpQuiet_nil ?_
              rintro _ ⟨u, rfl⟩
              go_wp2
              go_roundw
              case rel => exact ⟨k + 1, by omega, by go_num, fun j hj => by
                by_cases h : j = k
                · subst h; rw [HN.out]; rfl
                · exact HJ.out j (by omega), HX.out.trans (clip_ext _ _)⟩
              case measure => simp [intOf]; omega
          · rw [hbi] at HTI
            have HBI := Lib.hid hbi
            clear hbi
            have HN : Hid (sameP g s false i k = false) := by unfold Hid sameP; rw [HBI.out]; rfl
            go_wp2_with (first | (go_at_call 48; with_reducible refine (HTI.out _).mono ?_; rintro e w' ⟨rfl, rfl⟩) | (go_at_call 48; with_reducible refine (HTK.out _).mono ?_; rintro e w' ⟨rfl, rfl⟩))
            refine wp_region_ext (by kernel_rfl) (by kernel_rfl) ?_
            repeat (go_big_quiet_step (fail))
            refine wpQuiet_nil ?_
            rintro _ ⟨u, rfl⟩
            go_wp2
            go_roundw
            case rel => exact ⟨k + 1, by omega, by go_num, fun j hj => by
              by_cases h : j = k
              · subst h; rw [HN.out]; rfl
              · exact HJ.out j (by omega), HX.out.trans (clip_ext _ _)⟩
            case measure => simp [intOf]; omega
        · obtain rfl : k = i := by omega
          go_wp2
          go_roundw
          case rel => exact ⟨k + 1, by omega, by go_num, fun j hj => by
            by_cases h : j = k
            · subst h; exact bears_true HJ.out
            · exact HI.out j (by omega), HX⟩
          case measure => simp [intOf]; omega
    · obtain rfl : i = g.length := by omega
      go_wp2
      go_ret
      exact ⟨ret_bool (bears_true HI.out).symm, HX.out⟩

end Go.Proofs.Ytpmammklklkheaa
