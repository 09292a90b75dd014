/- The walk of the law FnFound: asked again, nothing changes. No condition. -/
import Derived.Test.YtnpkkfaidejljaaDFound
import Derived.Test.YtnpkkfaidejljaaFound
import Derived.Test.YtnpkkfaidejljaaDFacts
namespace Go.Proofs.Ytnpkkfaidejljaa
open Go.RowKit
open BigFrame

theorem byteAt_left {s t : ByteArray} {k : Nat} (h : k < s.size) : byteAt (s ++ t) k = byteAt s k := by
  unfold byteAt
  rw [dif_pos h, dif_pos (by rw [ByteArray.size_append]; omega), ByteArray.getElem_append_left h]
theorem byteAt_right {s t : ByteArray} {k : Nat} (h : k < t.size) : byteAt (s ++ t) (s.size + k) = byteAt t k := by
  unfold byteAt
  rw [dif_pos h, dif_pos (by rw [ByteArray.size_append]; omega), ByteArray.getElem_append_right (by omega)]
  congr 2
  omega
theorem getI_left {a b : List Int} {k : Nat} (h : k < a.length) : getI (a ++ b) k = getI a k := by
  unfold getI
  rw [List.getD_eq_getElem?_getD, List.getD_eq_getElem?_getD, List.getElem?_append_left h]
theorem getI_right {a b : List Int} {k : Nat} : getI (a ++ b) (a.length + k) = getI b k := by
  unfold getI
  rw [List.getD_eq_getElem?_getD, List.getD_eq_getElem?_getD, List.getElem?_append_right (by omega)]
  congr 2
  omega
theorem found_left {g a b : List Int} {s t : ByteArray} (h : a.length = s.size) : ∀ k, k ≤ a.length → foundTo g (a ++ b) (s ++ t) k = foundTo g a s k
  | 0, _ => rfl
  | k + 1, hk => by
    show (foundTo g (a ++ b) (s ++ t) k).bind _ = (foundTo g a s k).bind _
    rw [found_left h k (by omega), getI_left (show k < a.length by omega), byteAt_left (show k < s.size by omega)]
theorem next_sub {g : List Int} {s u : Nat} {x : Int} {c : Nat} (h : foundNext g s x c = some u) : band u s = u := by
  unfold foundNext at h
  split at h
  · split at h
    · cases h
      unfold qIn
      apply Nat.eq_of_testBit_eq
      intro i
      simp only [testBit_band]
      cases s.testBit i <;> simp
    · split at h
      · cases h
        apply Nat.eq_of_testBit_eq
        intro i
        simp only [testBit_band, testBit_without]
        cases s.testBit i <;> simp
      · cases h
  · cases h
theorem band_sub_trans {a b c : Nat} (h : band a b = a) (k : band b c = b) : band a c = a := by
  rw [← h]
  apply Nat.eq_of_testBit_eq
  intro i
  have h1 := congrArg (fun z => Nat.testBit z i) h
  have h2 := congrArg (fun z => Nat.testBit z i) k
  simp only [testBit_band] at h1 h2 ⊢
  revert h1 h2
  cases a.testBit i <;> cases b.testBit i <;> cases c.testBit i <;> simp
theorem found_sub {g a : List Int} {s : ByteArray} {k t : Nat} (h : foundTo g a s k = some t) : ∀ d u, foundTo g a s (k + d) = some u → band u t = u
  | 0, u, hu => by
    have : t = u := by rw [Nat.add_zero, h] at hu; cases hu; rfl
    rw [this]
    unfold band
    exact Nat.and_self _
  | d + 1, u, hu => by
    have hu' : (foundTo g a s (k + d)).bind (fun r => foundNext g r (getI a (k + d)) (byteAt s (k + d))) = some u := hu
    cases hr : foundTo g a s (k + d) with
    | none => rw [hr] at hu'; cases hu'
    | some r =>
      rw [hr] at hu'
      exact band_sub_trans (next_sub hu') (found_sub h d r hr)
/-- A set that lies in what a question leaves is left whole by the same question. -/
theorem next_again {g : List Int} {s t u : Nat} {x : Int} {c : Nat} (h : foundNext g s x c = some t) (hu : band u t = u) : foundNext g u x c = some u := by
  unfold foundNext at h ⊢
  split at h
  · rename_i h1
    rw [if_pos h1]
    split at h
    · rename_i h2
      rw [if_pos h2]
      cases h
      congr 1
      apply Nat.eq_of_testBit_eq
      intro i
      have := congrArg (fun z => Nat.testBit z i) hu
      unfold qIn at this ⊢
      simp only [testBit_band] at this ⊢
      revert this
      cases u.testBit i <;> cases s.testBit i <;> cases (ballN g x.toNat).testBit i <;> simp
    · rename_i h2
      rw [if_neg h2]
      split at h
      · rename_i h3
        rw [if_pos h3]
        cases h
        congr 1
        rw [qIn_without] at hu ⊢
        apply Nat.eq_of_testBit_eq
        intro i
        have := congrArg (fun z => Nat.testBit z i) hu
        simp only [testBit_band, testBit_without] at this ⊢
        revert this
        cases u.testBit i <;> cases s.testBit i <;> cases (ballN g x.toNat).testBit i <;> simp
      · cases h
  · cases h
theorem found_twice {g a : List Int} {s : ByteArray} (h : a.length = s.size) {u : Nat} (hu : foundTo g a s a.length = some u) : ∀ k, k ≤ a.length → foundTo g (a ++ a) (s ++ s) (a.length + k) = some u
  | 0, _ => by rw [Nat.add_zero, found_left h _ (Nat.le_refl _)]; exact hu
  | k + 1, hk => by
    show (foundTo g (a ++ a) (s ++ s) (a.length + k)).bind (fun r => foundNext g r (getI (a ++ a) (a.length + k)) (byteAt (s ++ s) (a.length + k))) = some u
    rw [found_twice h hu k (by omega), getI_right, show byteAt (s ++ s) (a.length + k) = byteAt s k from by rw [h]; exact byteAt_right (by omega)]
    show foundNext g u (getI a k) (byteAt s k) = some u
    cases h1 : foundTo g a s k with
    | none =>
      have := foundTo_none h1 (a.length - k)
      rw [show k + (a.length - k) = a.length from by omega, hu] at this
      cases this
    | some r =>
      cases h2 : foundNext g r (getI a k) (byteAt s k) with
      | none =>
        have e : foundTo g a s (k + 1) = none := by show (foundTo g a s k).bind _ = none; rw [h1]; exact h2
        have := foundTo_none e (a.length - (k + 1))
        rw [show k + 1 + (a.length - (k + 1)) = a.length from by omega, hu] at this
        cases this
      | some t =>
        have e : foundTo g a s (k + 1) = some t := found_go h1 h2
        exact next_again h2 (found_sub e (a.length - (k + 1)) u (by rw [show k + 1 + (a.length - (k + 1)) = a.length from by omega]; exact hu))
theorem found_all {g a : List Int} {s : ByteArray} (ha : a.length ≤ 10) : askFound g a s = (0, false) ∨ ∃ u : Nat, askFound g a s = (((u : Nat) : Int), true) ∧ askFound g (a ++ a) (s ++ s) = (((u : Nat) : Int), true) := by
  cases hc : graphIn g && decide (a.length = s.size) && decide (a.length ≤ 20)
  · exact .inl (by unfold askFound; rw [hc]; rfl)
  · cases hf : foundTo g a s a.length with
    | none => exact .inl (by unfold askFound; rw [hc, if_pos rfl, hf]; rfl)
    | some u =>
      refine .inr ⟨u, by unfold askFound; rw [hc, if_pos rfl, hf]; rfl, ?_⟩
      rw [Bool.and_eq_true, Bool.and_eq_true, decide_eq_true_iff] at hc
      unfold askFound
      rw [hc.1.1, show decide ((a ++ a).length = (s ++ s).size) = true from by rw [decide_eq_true_iff, List.length_append, ByteArray.size_append]; omega, show decide ((a ++ a).length ≤ 20) = true from by rw [decide_eq_true_iff, List.length_append]; omega]
      rw [List.length_append, found_twice hc.1.2 hf _ (Nat.le_refl _)]
      rfl

/-- A list put behind a row of the call's own. -/
theorem wpList_append_list {ops : Array Oper} {rest : List Oper} {o : Oper} {a : Act} {Q : Exit → Act → World → Prop} {w : World} (hgd : o.guard = none) (s x : Operand)
    (ho : o.op = .call { callee := .builtin .append, args := #[s, x], argTypes := #[22, 22] })
    (base : Nat) (v : Value) (xs : List Int) (hs : a.eval s = v) (hown : Own w base v xs) (k c : Nat) (ys : List Int) (hx : a.eval x = .slice (some ⟨k, 0, none⟩) ys.length c)
    (hr : Rd w (.slice (some ⟨k, 0, none⟩) ys.length c) ys) (hn : xs.length ≤ 1048576) (hn2 : ys.length ≤ 1048576) (hb : base ≤ w.heap.size)
    (h : ∀ v' w', Own w' base v' (xs ++ ys) → w.grownBy w' v.ownBlock → wpList Try.prog ops Q rest (a.put o.dst v') w') : wpList Try.prog ops Q (o :: rest) a w := by
  obtain ⟨i0, hi, hz0, hz1, hz2⟩ := info_parts info_int
  refine wpList_append_own w hgd s x 22 ho base 3 i0 (.int .i64 0) 1 8 Try.underlying22 hi hz0 hz1 hz2 rfl (by decide) v xs.length _ hs hown ⟨k, 0, none⟩ ys.length c (ys.map (Value.int .i64)) hx (by simp) ?_ (fun u hu => by obtain ⟨z, -, rfl⟩ := List.mem_map.1 hu; rfl) (by unfold maxLen; omega) (by omega) hb ?_
  · intro j u hu
    rw [List.getElem?_map] at hu
    cases hj : ys[j]? with
    | none => rw [hj] at hu; cases hu
    | some z =>
      rw [hj] at hu
      have hlt : j < ys.length := (List.getElem?_eq_some_iff.1 hj).1
      obtain ⟨b, o', he, -, -, hc⟩ := hr.at hlt
      have e1 := hc w (Ext.refl _)
      simp only [Option.some.injEq, Addr.mk.injEq] at he
      obtain ⟨rfl, rfl, -⟩ := he
      rw [Addr.add_lit, e1, List.getD_eq_getElem?_getD, hj]
      exact hu
  · intro v' w' h1 h2 _
    refine h v' w' ?_ h2
    unfold Own
    simpa using h1

set_option maxRecDepth 100000 in
set_option maxHeartbeats 1000000 in
theorem FnFound_walk (v : Value) (bs : List Int) (w : World) (hv : Rb w v bs) :
    Calls Try.prog 16 #[v] w fun e w' => e = .returned (.bool true) ∧ Below w.heap.size w w' := by
  have HV := Lib.hid hv
  obtain ⟨a, c, rfl, -, -⟩ := hv
  go_enter Try.func16, Try.ntmps16
  by_cases hl : bs.length ≤ 1048576
  · go_wp2_with fail
    refine (drawAskFound_c _ bs w HV.out hl).mono ?_
    rintro e w1 ⟨v1, gs, k, ck, asked, said, rfl, hn1, hn7, hal, hsl, r1, ra1, x1⟩
    obtain ⟨a1, c1, rfl⟩ := r1.form
    have hm : gs.length ≤ 1048576 := by omega
    have hm' : asked.length ≤ 1048576 := by omega
    have hs9 : said.size ≤ 99 := by omega
    have R1 := Lib.hid r1; have X1 := Lib.hid x1; have A1 := Lib.hid ra1
    clear r1 x1 ra1
    rcases found_all (g := gs) (s := said) (show asked.length ≤ 10 by omega) with h0 | ⟨u, hu1, hu2⟩
    · have H0 := Lib.hid h0
      clear h0
      go_wp2_with fail
      refine (askFoundI_c _ _ gs asked said w1 R1.out A1.out hm hm').mono ?_
      rintro e w2 ⟨rfl, x2⟩
      rw [H0.out]
      unfold pairV
      have R2 := Lib.hid (R1.out.ext x2); have A2 := Lib.hid (A1.out.ext x2); have X2 := Lib.hid (X1.out.trans x2); clear x2
      go_wp2_with fail
      refine (askFoundS_c _ _ gs asked said w2 R2.out A2.out hm hm').mono ?_
      rintro e w3 ⟨rfl, x3⟩
      rw [H0.out]
      unfold pairV
      have X3 := Lib.hid (X2.out.trans x3); clear x3
      go_wp2
      go_ret
      exact ⟨rfl, X3.out⟩
    · have HU1 := Lib.hid hu1; have HU2 := Lib.hid hu2
      clear hu1 hu2
      go_wp2_with fail
      refine (askFoundI_c _ _ gs asked said w1 R1.out A1.out hm hm').mono ?_
      rintro e w2 ⟨rfl, x2⟩
      rw [HU1.out]
      unfold pairV
      have R2 := Lib.hid (R1.out.ext x2); have A2 := Lib.hid (A1.out.ext x2); have X2 := Lib.hid (X1.out.trans x2); clear x2
      go_wp2_with fail
      refine (askFoundS_c _ _ gs asked said w2 R2.out A2.out hm hm').mono ?_
      rintro e w3 ⟨rfl, x3⟩
      rw [HU1.out]
      unfold pairV
      have R3 := Lib.hid (R2.out.ext x3); have A3 := Lib.hid (A2.out.ext x3); have X3 := Lib.hid (X2.out.trans x3); clear x3
      go_wp2_with (first
        | (at_builtin; refine wpList_append_list rfl _ _ rfl w3.heap.size _ _ rfl O4.out k ck asked rfl A4.out (by simp; omega) hm' (by have := X4.out.size; omega) ?_; intro v5 w5 ho5 hg5; have O5 := Lib.hid ho5; have X5 := Lib.hid (X4.out.grown hg5 (fun k hk => (O4.out.lt k hk).1)); clear ho5 hg5)
        | (at_builtin; refine wpList_append_list rfl _ _ rfl w3.heap.size _ _ rfl (Own.lit w3) k ck asked rfl (A3.out.ext ((Ext.refl _).alloc _)) (by simp) hm' (by simp) ?_; intro v4 w4 ho4 hg4; have O4 := Lib.hid ho4; have X4 : Hid (Ext w3 w4) := ((Ext.refl w3).alloc _).grown hg4 (fun k hk => ((Own.lit w3).lt k hk).1); have A4 := Lib.hid (A3.out.ext X4.out); clear ho4 hg4))
      refine (askFoundI_c _ _ gs (asked ++ asked) (said ++ said) w5 (R3.out.ext X5.out) (by have := O5.out.rd; rw [List.nil_append] at this; exact this) hm (by rw [List.length_append]; omega)).mono ?_
      rintro e w6 ⟨rfl, x6⟩
      rw [HU2.out]
      unfold pairV
      have X6 := Lib.hid (X3.out.trans (X5.out.trans x6)); clear x6
      go_wp2
      go_ret
      exact ⟨rfl, X6.out⟩
  · go_wp2
    go_ret
    exact ⟨rfl, Below.refl _ _⟩
end Go.Proofs.Ytnpkkfaidejljaa
