/- What the walks of this seat rest on, one part: plain facts, and contracts of the functions that they reach. Each states its own condition. -/
import Derived.Test.YtkmfmhckpfomeaaGreatDoorB14
import Derived.Test.YtkmfmhckpfomeaaGreatDoorB20
import Derived.Test.YtkmfmhckpfomeaaGreatDoorB8
import Derived.Test.YtkmfmhckpfomeaaGreatDoorB7
import Derived.Test.YtkmfmhckpfomeaaGreatDoorB3
set_option linter.all false
set_option linter.unusedSimpArgs false
set_option linter.unusedVariables false
/- What is left of a code when nodes that are not needed are taken out: the reference and the program compute the same plain function. The condition: the list has at most 2^20 numbers. -/
namespace Go.Proofs.YtkmfmhckpfomeaaGreatDoor
open Go.RowKit
open BigFrame
attribute [local go_sem] Oper.semAt_some

def thinTo (g : List Int) (K s : Nat) : Nat → Nat
  | 0 => s
  | i + 1 => if kindN g K (without (thinTo g K s i) (2 ^ i)) then without (thinTo g K s i) (2 ^ i) else thinTo g K s i
theorem thin_bit (g : List Int) (K s j : Nat) : ∀ i, (thinTo g K s i).testBit j = true → s.testBit j = true
  | 0, h => h
  | i + 1, h => by
    unfold thinTo at h
    split at h
    · rw [testBit_without, Bool.and_eq_true] at h
      exact thin_bit g K s j i h.1
    · exact thin_bit g K s j i h
theorem thin_lt {g : List Int} {K s n : Nat} (hs : s < 2 ^ n) : ∀ i, thinTo g K s i < 2 ^ n
  | 0 => hs
  | i + 1 => by
    unfold thinTo
    split
    · exact without_lt (thin_lt hs i)
    · exact thin_lt hs i
theorem thin_kind {g : List Int} {K s : Nat} (h : kindN g K s = true) : ∀ i, kindN g K (thinTo g K s i) = true
  | 0 => h
  | i + 1 => by
    unfold thinTo
    split
    · assumption
    · exact thin_kind h i
theorem thin_skip {g : List Int} {K s i : Nat} (h : s.testBit i = false) : thinTo g K s (i + 1) = thinTo g K s i := by
  have hb : (thinTo g K s i).testBit i = false := by
    cases e : (thinTo g K s i).testBit i
    · rfl
    · rw [thin_bit g K s i i e] at h; cases h
  have e : without (thinTo g K s i) (2 ^ i) = thinTo g K s i := by
    apply Nat.eq_of_testBit_eq
    intro j
    rw [testBit_without, Nat.testBit_two_pow]
    by_cases e : i = j
    · subst e; rw [hb]; rfl
    · rw [decide_eq_false e]; simp
  rw [thinTo, e]
  split <;> rfl
def codeThin (g : List Int) (kind s : Int) : Int × Bool := if codeIn g kind s then (((thinTo g kind.toNat s.toNat g.length : Nat) : Int), true) else (0, false)
theorem code_parts {g : List Int} {kind s : Int} (h : codeIn g kind s = true) : ∃ K k : Nat, kind = K ∧ s = k ∧ K ≤ 3 ∧ IsGraph g ∧ k < 2 ^ g.length ∧ kindN g K k = true := by
  unfold codeIn at h
  rw [Bool.and_eq_true, Bool.and_eq_true, Bool.and_eq_true] at h
  obtain ⟨⟨⟨h1, h2⟩, h3⟩, h4⟩ := h
  obtain ⟨k, rfl, hk⟩ := setB_iff.1 h3
  have := inB_iff.1 h2
  exact ⟨kind.toNat, k, by omega, rfl, by omega, graphIn_iff.1 h1, hk, h4⟩

set_option maxHeartbeats 1000000 in
theorem codeThinS_c (v : Value) (g : List Int) (kind s : Int) (w : World) (hv : Rd w v g) (hm : g.length ≤ 1048576) :
    Calls Tryz.prog 120 #[v, .int .i64 kind, .int .i64 s] w fun e w' => e = .returned (pairV (codeThin g kind s)) ∧ Ext w w' := by
  obtain ⟨a, c, rfl⟩ := hv.form
  have HV := Lib.hid hv
  have HC := Lib.hid (codeInS_c (.slice a g.length c) g kind s w hv hm)
  clear hv
  cases h0 : codeIn g kind s
  · rw [h0] at HC
    rw [show codeThin g kind s = (0, false) from by unfold codeThin; rw [h0]; rfl]
    clear h0 hm
    go_enter Tryz.func120, Tryz.ntmps120
    go_wp2_with fail
    refine HC.out.mono ?_
    rintro e w1 ⟨rfl, x1⟩
    have X1 := Lib.hid x1; clear x1
    go_wp2
    go_ret2
    exact ⟨rfl, X1.out⟩
  · rw [h0] at HC
    obtain ⟨K, k, rfl, rfl, hK3, hG, hk, hkind⟩ := code_parts h0
    have hl := hG.le
    have hk4 : k ≤ 4095 := by have := pow_le_12 hl; omega
    have HG := Lib.hid hG; have HK := Lib.hid hk; have HKN := Lib.hid hkind
    have HR : Hid (codeThin g K k = (((thinTo g K k g.length : Nat) : Int), true)) := by unfold codeThin Hid; rw [h0]; rfl
    rw [HR.out]
    clear h0 hm hG hk hkind HR
    obtain ⟨L, hL⟩ : ∃ L, L = g.length := ⟨_, rfl⟩
    have HL := Lib.hid hL
    rw [← hL] at hl HC HK ⊢
    have HV' : Hid (Rd w (.slice a L c) g) := by rw [hL]; exact HV.out
    clear hL HV
    go_enter Tryz.func120, Tryz.ntmps120
    go_wp2_with fail
    refine HC.out.mono ?_
    rintro e w1 ⟨rfl, x1⟩
    have X1 := Lib.hid x1; clear x1 HC
    go_wp2_with fail
    refine (l2Table_c (.slice a L c) g w1 (HV'.out.ext X1.out) HG.out).mono ?_
    rintro e w2 ⟨vt, vs, rfl, ht, x2⟩
    have HT := Lib.hid ht; have X2 := Lib.hid (X1.out.trans x2)
    clear ht x2
    go_wp2
    go_loopw [2, 9] (fun q i wr => ∃ j d : Nat, j ≤ L ∧ i = .int .i64 j ∧ q = .int .i64 d ∧ d ≤ 4095 ∧ Hid (d = thinTo g K k j) ∧ Hid (Ext w2 wr)) (fun _ i _ => L - (intOf i).toNat)
    case atStart => exact ⟨0, k, Nat.zero_le _, rfl, rfl, hk4, rfl, Ext.refl _⟩
    case round =>
      obtain ⟨j, d, hj, rfl, rfl, hd4, HD, HX⟩ := hrel
      by_cases hlt : j < L
      · have HN : Hid (thinTo g K k (j + 1) = if kindN g K (without d (2 ^ j)) then without d (2 ^ j) else d) := by rw [HD.out]; rfl
        obtain ⟨p, hp, hp1, hp2, hp3⟩ := pow_var j (by omega)
        have hp4 : p ≤ 2048 := by rw [← hp]; exact (Nat.pow_le_pow_right (by omega) (by omega) : 2 ^ j ≤ 2 ^ 11)
        have e0 : min j 64 = j := by omega
        rw [hp] at HN
        have e1 := bits_andNot d p (by omega) (by omega)
        have hr4 := without_le d p hd4
        have HI := Lib.hid (l2In_c (.slice a L c) vt vs g K (without d p) wr (HV'.out.ext (X2.out.trans HX.out)) (HT.out.ext HX.out) HG.out hr4 hK3)
        clear hp
        generalize without d p = r at e1 hr4 HI HN
        obtain ⟨T, hT⟩ : ∃ T, kindN g K r = T := ⟨_, rfl⟩
        rw [hT] at HN HI
        clear hT
        cases T
        · have HN' : Hid (d = thinTo g K k (j + 1)) := HN.out.symm
          go_wp2_with fail
          refine HI.out.mono ?_
          rintro e w3 ⟨rfl, x3⟩
          have X3 := Lib.hid (HX.out.trans x3); clear x3
          go_wp2
          go_roundw
          case rel => exact ⟨j + 1, d, by omega, by go_num, rfl, hd4, HN', X3.out⟩
          case measure => simp [intOf]; omega
        · have HN' : Hid (r = thinTo g K k (j + 1)) := HN.out.symm
          go_wp2_with fail
          refine HI.out.mono ?_
          rintro e w3 ⟨rfl, x3⟩
          have X3 := Lib.hid (HX.out.trans x3); clear x3
          go_wp2
          go_roundw
          case rel => exact ⟨j + 1, r, by omega, by go_num, rfl, hr4, HN', X3.out⟩
          case measure => simp [intOf]; omega
      · obtain rfl : j = L := by omega
        go_wp2
        go_ret2
        exact ⟨ret_pair' (by rw [HD.out, HL.out]), X2.out.trans HX.out⟩

theorem leave_tmps {fn : Func} {p q : Tmp} {x : Int} {y : Bool} {r : Int × Bool} {w W : World} {tmps : Array Value} {ds : List Deferred} (hr : fn.results = #[.tmp p, .tmp q])
    (hp : tmps.getD p undef = .int .i64 x) (hq : tmps.getD q undef = .bool y) (hm : Marks w.heap.size W ds) (hx : Ext w W) (hxy : (x, y) = r) :
    LeavesInM Fence.wide 0 Tryz.prog fn tmps (fun e w' => e = .returned (pairV r) ∧ Ext w w') ds .returning W := by
  subst hxy
  refine leaves_marks (B := w.heap.size) (.tuple #[.int .i64 x, .bool y]) _ _ hm fun W' hW' => ⟨?_, rfl, hx.book (Nat.le_refl _) hW'⟩
  rw [results_tmp2 hr, hp, hq]

set_option maxRecDepth 100000 in
set_option maxHeartbeats 4000000 in
theorem codeThinI_c (v : Value) (g : List Int) (kind s : Int) (w : World) (hv : Rd w v g) (hm : g.length ≤ 1048576) :
    Calls Tryz.prog 86 #[v, .int .i64 kind, .int .i64 s] w fun e w' => e = .returned (pairV (codeThin g kind s)) ∧ Ext w w' := by
  obtain ⟨a, c, rfl⟩ := hv.form
  obtain ⟨W, hW, hx, hsz, c0, c1, f0, f1⟩ := two_new w (.int .i64 kind) (.int .i64 s) 3 3
  have HW := Lib.hid hW; have HX0 := Lib.hid hx; have HV := Lib.hid hv
  have VK : Hid (Var W w.heap.size (.int .i64 kind)) := ⟨c0, f0, by omega⟩
  have VS : Hid (Var W (w.heap.size + 1) (.int .i64 s)) := ⟨c1, f1, by omega⟩
  have HC := Lib.hid (codeInI_c (.slice a g.length c) g kind s W (hv.ext hx) hm)
  have k0 := c0
  have k1 := c1
  rw [hW] at k0 k1
  have l1 : w.heap.size + 2 = W.heap.size := by omega
  clear hv hW hx hsz c0 c1 f0 f1 hm
  refine calls_marks Tryz.func86 rfl ?_
  simp only [Tryz.ntmps86, List.size_toArray, List.length_cons, List.length_nil, Nat.reduceAdd, Nat.reduceSub, Array.replicate_succ, Array.replicate_zero, List.push_toArray, List.append_toArray, List.nil_append, List.cons_append]
  cases h0 : codeIn g kind s
  · rw [h0] at HC
    rw [show codeThin g kind s = (0, false) from by unfold codeThin; rw [h0]; rfl]
    clear h0
    go_wp2_with fail
    rw [← HW.out]
    refine HC.out.mono ?_
    rintro e w1 ⟨rfl, x1⟩
    have X1 := Lib.hid (HX0.out.trans x1); clear x1
    go_wp2
    exact leave_tmps rfl rfl rfl (Marks.nil _ _) X1.out rfl
  · rw [h0] at HC
    obtain ⟨K, k, rfl, rfl, hK3, hG, hk, hkind⟩ := code_parts h0
    have hl := hG.le
    have hk4 : k ≤ 4095 := by have := pow_le_12 hl; omega
    have HG := Lib.hid hG; have HK := Lib.hid hk; have HKN := Lib.hid hkind
    have HR : Hid (codeThin g K k = (((thinTo g K k g.length : Nat) : Int), true)) := by unfold codeThin Hid; rw [h0]; rfl
    rw [HR.out]
    clear h0 hG hk hkind HR
    go_wp2_with fail
    rw [← HW.out]
    refine HC.out.mono ?_
    rintro e w1 ⟨rfl, x1⟩
    have X1 := Lib.hid (HX0.out.trans x1)
    have VK1 := Lib.hid (VK.out.ext x1); have VS1 := Lib.hid (VS.out.ext x1)
    have s1 := x1.size
    clear x1 HC k0 k1 VK VS
    go_wp2_with fail
    refine (bookOfAt_c _ g w1 (HV.out.ext X1.out) HG.out).mono ?_
    rintro e w2 ⟨b, vb, vf, vs, rfl, hbk, x2⟩
    have X2 := Lib.hid (X1.out.trans x2)
    have VK2 := Lib.hid (VK1.out.ext x2); have VS2 := Lib.hid (VS1.out.ext x2)
    have s2 := x2.size
    obtain ⟨W3, hW3⟩ : ∃ V, V = w2.alloc (.cells #[.pointer (some ⟨b, 0, none⟩)] 66) := ⟨_, rfl⟩
    have hx3 : Ext w2 W3 := by rw [hW3]; exact (Ext.refl _).alloc _
    have s3 : W3.heap.size = w2.heap.size + 1 := by rw [hW3]; simp
    have VB3 : Hid (Var W3 w2.heap.size (.pointer (some ⟨b, 0, none⟩))) := by rw [hW3]; exact Var.new _ _ _
    have BK3 := Lib.hid (hbk.ext hx3)
    have VK3 := Lib.hid (VK2.out.ext hx3); have VS3 := Lib.hid (VS2.out.ext hx3); have X3 := Lib.hid (X2.out.trans hx3)
    have k1 := VS3.out.cell
    have HW3 := Lib.hid hW3
    rw [hW3] at k1
    clear x2 hx3 hW3 hbk VK1 VS1 VK2 VS2
    obtain ⟨W4, hW4⟩ : ∃ V, V = W3.alloc (.cells #[.int .i64 k] 3) := ⟨_, rfl⟩
    have hx4 : Ext W3 W4 := by rw [hW4]; exact (Ext.refl _).alloc _
    have s4 : W4.heap.size = W3.heap.size + 1 := by rw [hW4]; simp
    have VI4 : Hid (Var W4 (w2.heap.size + 1) (.int .i64 k)) := by rw [← s3, hW4]; exact Var.new _ _ _
    have BK4 := Lib.hid (BK3.out.ext hx4)
    have VB4 := Lib.hid (VB3.out.ext hx4); have VK4 := Lib.hid (VK3.out.ext hx4); have VS4 := Lib.hid (VS3.out.ext hx4); have X4 := Lib.hid (X3.out.trans hx4)
    have HW4 := Lib.hid hW4
    clear hx4 hW4 VB3 VK3 VS3 BK3
    go_wp2_with fail
    rw [← HW3.out]
    refine (nodes_c _ _).mono ?_
    rintro e w' ⟨rfl, rfl⟩
    go_wp2
    rw [← HW4.out]
    clear k1
    refine wp_range (nodes_iter (w2.heap.size + 1) k g.length HK.out (by omega)) rfl nodes_enters rfl
      (fun y W' => ∃ d, d ≤ 4095 ∧ d = thinTo g K k y ∧ Var W' w.heap.size (.int .i64 K) ∧ Var W' (w.heap.size + 1) (.int .i64 (d : Nat)) ∧ Var W' w2.heap.size (.pointer (some ⟨b, 0, none⟩)) ∧ Var W' (w2.heap.size + 1) (.int .i64 k) ∧ IsBookAt W' w1.heap.size b g (.slice a g.length c) vb vf vs ∧ Ext w W' ∧ W4.heap.size ≤ W'.heap.size)
      (fun _ _ => False)
      ?hI ?hIx ?hKi ?h0 ?hskip ?hround ?hdone ?hstop
    case hI =>
      rintro j W' W'' hB ⟨d, h1, h2, h3, h4, h5, h6, h7, h8, h9⟩
      exact ⟨d, h1, h2, h3.book hB (by omega), h4.book hB (by omega), h5.book hB (by omega), h6.book hB (by omega), h7.book hB, h8.book (by omega) hB, Nat.le_trans h9 hB.size⟩
    case hIx => exact fun _ _ _ _ h => h
    case hKi =>
      rintro j W' ⟨d, _, _, _, _, _, h6, _⟩
      exact h6.cell
    case h0 => exact ⟨k, hk4, rfl, VK4.out, VS4.out, VB4.out, VI4.out, BK4.out, X4.out, Nat.le_refl _⟩
    case hskip =>
      rintro j W' hj hp ⟨d, h1, h2, h3⟩
      exact ⟨d, h1, h2.trans (thin_skip hp).symm, h3⟩
    case hround =>
      rintro l j W' hj hp ⟨d, hd4, h2, h3, h4, h5, h6, h7, h8, h9⟩ hsz
      gi_wp2
      refine ⟨KeepsFrom.refl _ _, fun W'' hB => ?_⟩
      have HD := Lib.hid h2
      have V1 : Hid (Var W'' w.heap.size (.int .i64 K)) := h3.book hB (by omega)
      have V2 : Hid (Var W'' (w.heap.size + 1) (.int .i64 d)) := h4.book hB (by omega)
      have V3 : Hid (Var W'' w2.heap.size (.pointer (some ⟨b, 0, none⟩))) := h5.book hB (by omega)
      have V4 : Hid (Var W'' (w2.heap.size + 1) (.int .i64 k)) := h6.book hB (by omega)
      have BB : Hid (IsBookAt W'' w1.heap.size b g (.slice a g.length c) vb vf vs) := h7.book hB
      have XX : Hid (Ext w W'') := h8.book (by omega) hB
      have l9 : W4.heap.size ≤ W''.heap.size := Nat.le_trans h9 hB.size
      have HN : Hid (thinTo g K k (j + 1) = if kindN g K (without d (2 ^ j)) then without d (2 ^ j) else d) := by rw [HD.out]; rfl
      obtain ⟨p, hp', hp1, hp2, hp3⟩ := pow_var j (by omega)
      have hp4 : p ≤ 2048 := by rw [← hp']; exact (Nat.pow_le_pow_right (by omega) (by omega) : 2 ^ j ≤ 2 ^ 11)
      have e0 : min j 64 = j := by omega
      rw [hp'] at HN
      have e1 := bits_andNot d p (by omega) (by omega)
      have hr4 := without_le d p hd4
      have hrl : without d p < 2 ^ g.length := by rw [HD.out]; exact without_lt (thin_lt HK.out j)
      have HI := Lib.hid (fun u => is_c b (.slice a g.length c) vb vf vs g K (without d p) (clip W'' u) (BB.out.is.ext (clip_ext _ _)) (HV.out.ext (XX.out.trans (clip_ext _ _))) HG.out hrl hK3)
      clear hp' h2 h3 h4 h5 h6 h7 h8 h9 hB hp hsz hrl
      generalize without d p = r at e1 hr4 HI HN
      obtain ⟨T, hT⟩ : ∃ T, kindN g K r = T := ⟨_, rfl⟩
      rw [hT] at HN HI
      clear hT
      have k1 := fun u => (V1.out.ext (clip_ext W'' u)).cell
      have k2 := fun u => (V2.out.ext (clip_ext W'' u)).cell
      have k3 := fun u => (V3.out.ext (clip_ext W'' u)).cell
      cases T
      · have HN' : Hid (d = thinTo g K k (j + 1)) := HN.out.symm
        gi_wp2
        refine wpIn_quiet (ro := some l) (C := fun w' => ∃ u, w' = clip W'' u) (by kernel_rfl) (by kernel_rfl) (by kernel_rfl) ⟨_, (clip_of (Ext.refl W'').drew).symm⟩ ?_
        repeat (go_big_quiet_step ((go_at_call 45; exact Calls.clip_of (HI.out _))))
        refine wpQuiet_nil ?_
        rintro _ ⟨u', rfl⟩
        have xc := clip_ext W'' u'
        have := xc.size
        clear k1 k2 k3
        gi_wp2
        exact ⟨KeepsFrom.of_ext xc, d, hd4, HN'.out, V1.out.ext xc, V2.out.ext xc, V3.out.ext xc, V4.out.ext xc, BB.out.ext xc, XX.out.trans xc, by omega⟩
      · have HN' : Hid (r = thinTo g K k (j + 1)) := HN.out.symm
        gi_wp2
        refine wpIn_quiet (ro := some l) (C := fun w' => ∃ u, w' = clip W'' u) (by kernel_rfl) (by kernel_rfl) (by kernel_rfl) ⟨_, (clip_of (Ext.refl W'').drew).symm⟩ ?_
        repeat (go_big_quiet_step ((go_at_call 45; exact Calls.clip_of (HI.out _))))
        refine wpQuiet_nil ?_
        rintro _ ⟨u', rfl⟩
        have xc := clip_ext W'' u'
        have l10 := xc.size
        obtain ⟨w5, hw5⟩ : ∃ V, V = clip W'' u' := ⟨_, rfl⟩
        rw [← hw5] at xc l10 ⊢
        clear k1 k2 k3 hw5 HI
        have k2 := fun u => ((V2.out.ext xc).ext (clip_ext w5 u)).cell
        have XC := Lib.hid xc
        clear xc
        gi_wp2
        refine wpIn_quiet_tail (ro := some l) (C := fun w' => ∃ u, w' = clip w5 u) 4 (by kernel_rfl) (by kernel_rfl) (by kernel_rfl) ⟨_, (clip_of (Ext.refl w5).drew).symm⟩ ?_
        simp only [List.take_succ_cons, List.take_zero, List.drop_succ_cons, List.drop_zero]
        repeat (go_big_quiet_step (fail))
        refine wpQuiet_nil ?_
        rintro _ ⟨u', rfl⟩
        have xc := Lib.hid (XC.out.trans (clip_ext w5 u'))
        obtain ⟨q1, q2, -⟩ := V2.out.ext xc.out
        gi_wp2
        refine ⟨(KeepsFrom.of_ext xc.out).trans (KeepsFrom.setCell' _ _ _ _), r, hr4, HN'.out, (V1.out.ext xc.out).other (by omega) _, (V2.out.ext xc.out).set _, (V3.out.ext xc.out).other (by omega) _, (V4.out.ext xc.out).other (by omega) _, (BB.out.ext xc.out).upd (by omega) (Upd.set _ _ _ _), (XX.out.trans xc.out).setCell (by show w.heap.size ≤ w.heap.size + 1; omega) _, ?_⟩
        have := xc.out.size; simp; omega
    case hdone =>
      rintro D' W' hD ⟨d, hd4, h2, h3, h4, h5, h6, h7, h8, h9⟩ hDD
      have HE : Hid (d = thinTo g K k g.length) := h2
      have k1 := h4.cell
      have H8 := Lib.hid h8
      have HM : Hid (Marks w.heap.size W' [{ target := .collected D', args := #[] }]) := (Marks.nil _ _).cons (n := W4.heap.size) (fun k hk => by simp at hk) hD (by omega) hDD
      clear h2 h3 h4 h5 h6 h7 h8 hDD
      go_wp2
      exact leave_tmps rfl rfl rfl HM.out H8.out (by rw [HE.out])
    case hstop => exact fun _ _ _ _ h _ => h.elim
end Go.Proofs.YtkmfmhckpfomeaaGreatDoor

/- What draws: bytes that are read, the reader, its numbers. The condition: at most 2^20 numbers are drawn. -/
namespace Go.Proofs.YtkmfmhckpfomeaaGreatDoor
open Go.RowKit
open BigFrame

/-- A slice of bytes that is read. -/
def Rb (w : World) (v : Value) (bs : List Int) : Prop :=
  ∃ a c, v = .slice a bs.length c ∧ bs.length ≤ c ∧ (bs.length = 0 ∨ ∃ b o, a = some ⟨b, o, none⟩ ∧ b < w.heap.size ∧ ∀ i, i < bs.length → ∃ y : Nat, y ≤ 255 ∧ w.cell? ⟨b, o + i, none⟩ = some (.int .u8 y))
theorem Rb.ext {w w' : World} {v : Value} {bs : List Int} (h : Rb w v bs) (hx : Ext w w') : Rb w' v bs := by
  obtain ⟨a, c, rfl, hl, h⟩ := h
  refine ⟨a, c, rfl, hl, h.imp id ?_⟩
  rintro ⟨b, o, rfl, hb, h⟩
  exact ⟨b, o, rfl, Nat.lt_of_lt_of_le hb hx.size, fun i hi => by obtain ⟨y, hy, hc⟩ := h i hi; exact ⟨y, hy, (hx.cell hb).trans hc⟩⟩
theorem rb_of {w : World} {a : Option Addr} {len cap : Nat} {zs : List Int}
    (h : (a = none ∧ len = 0 ∧ cap = 0 ∧ zs = []) ∨ ∃ x, a = some x ∧ len ≤ cap ∧ cap ≤ maxLen ∧ zs.length = cap ∧ (∀ i, i < zs.length → w.cell? (x.add i) = some (.int .u8 (zs.getD i 0))) ∧ ∀ n ∈ zs, (Lit.int .u8 n).wf = true) :
    Rb w (.slice a len cap) (zs.take len) := by
  rcases h with ⟨rfl, rfl, rfl, rfl⟩ | ⟨⟨b, o, sp⟩, rfl, hl, _, hz, hc, hw⟩
  · exact ⟨none, 0, rfl, Nat.le_refl _, .inl rfl⟩
  · have hlen : (zs.take len).length = len := by simp; omega
    refine ⟨_, cap, by rw [hlen], by omega, ?_⟩
    by_cases h0 : len = 0
    · exact .inl (by omega)
    · have c0 := hc 0 (by omega)
      have hsp : sp = none := by
        cases sp with
        | none => rfl
        | some q =>
          simp [World.cell?, Addr.add] at c0
          split at c0 <;> simp at c0
      subst hsp
      refine .inr ⟨b, o, rfl, ?_, fun i hi => ?_⟩
      · have := World.block_lt_of_cell? _ _ c0
        simpa [Addr.add] using this
      · have h1 : i < zs.length := by omega
        have := hc i h1
        rw [Addr.add_lit] at this
        have hm := hw (zs.getD i 0) (by rw [List.getD_eq_getElem?_getD, List.getElem?_eq_getElem h1]; exact List.getElem_mem h1)
        have hr : 0 ≤ zs.getD i 0 ∧ zs.getD i 0 ≤ 255 := by
          have h2 : (decide (IntKind.u8.min ≤ zs.getD i 0) && decide (zs.getD i 0 ≤ IntKind.u8.max)) = true := hm
          rw [Bool.and_eq_true, decide_eq_true_iff, decide_eq_true_iff] at h2
          exact h2
        exact ⟨(zs.getD i 0).toNat, by omega, by rw [this]; congr 2; omega⟩
/-- The reader at block b, made behind the world w0; at most m numbers have been drawn. -/
def RdOk (w0 : World) (b m : Nat) (w : World) : Prop :=
  ∃ v bs p, Rb w0 v bs ∧ bs.length ≤ 2000 ∧ w0.heap.size ≤ b ∧ p ≤ m ∧ w.cell? ⟨b, 0, none⟩ = some v ∧ w.cell? ⟨b, 1, none⟩ = some (.int .i64 (p : Nat)) ∧ w.frozen? ⟨b, 1, none⟩ = false ∧ b < w.heap.size ∧ Ext w0 w
theorem RdOk.next {w0 w w' : World} {b m : Nat} (h : RdOk w0 b m w) (hx : Ext w w') : RdOk w0 b m w' := by
  obtain ⟨v, bs, p, h1, h2, h3, h4, h5, h6, h7, h8, h9⟩ := h
  exact ⟨v, bs, p, h1, h2, h3, h4, (hx.cell h8).trans h5, (hx.cell h8).trans h6, (hx.frozen h8).trans h7, Nat.lt_of_lt_of_le h8 hx.size, h9.trans hx⟩
theorem RdOk.more {w0 w : World} {b m n : Nat} (h : RdOk w0 b m w) (hn : m ≤ n) : RdOk w0 b n w := by
  obtain ⟨v, bs, p, h1, h2, h3, h4, h5⟩ := h
  exact ⟨v, bs, p, h1, h2, h3, Nat.le_trans h4 hn, h5⟩
theorem RdOk.ext {w0 w : World} {b m : Nat} (h : RdOk w0 b m w) : Ext w0 w := by
  obtain ⟨v, bs, p, h1, h2, h3, h4, h5, h6, h7, h8, h9⟩ := h; exact h9
theorem RdOk.lt {w0 w : World} {b m : Nat} (h : RdOk w0 b m w) : w0.heap.size ≤ b ∧ b < w.heap.size := by
  obtain ⟨v, bs, p, h1, h2, h3, h4, h5, h6, h7, h8, h9⟩ := h; exact ⟨h3, h8⟩
theorem RdOk.below {w0 w w' : World} {b m : Nat} (h : RdOk w0 b m w) (hx : Below (b + 1) w w') : RdOk w0 b m w' := by
  obtain ⟨v, bs, p, h1, h2, h3, h4, h5, h6, h7, h8, h9⟩ := h
  refine ⟨v, bs, p, h1, h2, h3, h4, (Below.cell (p := ⟨b, 0, none⟩) hx (by show b < b + 1; omega)).trans h5, (Below.cell (p := ⟨b, 1, none⟩) hx (by show b < b + 1; omega)).trans h6, (Below.frozen (p := ⟨b, 1, none⟩) hx (by show b < b + 1; omega)).trans h7, Nat.lt_of_lt_of_le h8 (Below.size hx), ?_⟩
  exact ⟨hx.os.trans h9.os, hx.tape.trans h9.tape, hx.output.trans h9.output, Nat.le_trans h9.size hx.size, fun i hi => (Below.block hx i (by omega)).trans (h9.block hi)⟩

set_option maxHeartbeats 1000000 in
theorem l6Open_c (v : Value) (bs : List Int) (w : World) (hv : Rb w v bs) (hm : bs.length ≤ 1048576) :
    Calls Tryz.prog 24 #[v] w fun e w' => e = .returned (.pointer (some ⟨w.heap.size, 0, none⟩)) ∧ RdOk w w.heap.size 0 w' ∧ Ext w w' := by
  obtain ⟨a, c, rfl, hc, h⟩ := hv
  obtain ⟨n, hn⟩ : ∃ n, n = bs.length := ⟨_, rfl⟩
  have HH := Lib.hid h
  have HN := Lib.hid hn
  rw [← hn] at hm hc ⊢
  clear h hn
  have hnew : ∀ u : Value, RdOk w w.heap.size 0 (w.alloc (.cells #[u, .int .i64 0] 76)) ∨ ∀ us, us.length ≤ 2000 → ¬ Rb w u us := fun u => by
    by_cases hu : ∃ us, us.length ≤ 2000 ∧ Rb w u us
    · obtain ⟨us, h1, h2⟩ := hu
      have h3 := two_cells (World.alloc_heap_new w (.cells #[u, .int .i64 0] 76))
      refine .inl ⟨u, us, 0, h2, h1, Nat.le_refl _, Nat.le_refl _, h3.1, h3.2, ?_, by simp, (Ext.refl w).alloc _⟩
      have := World.alloc_heap_new w (.cells #[u, .int .i64 0] 76)
      generalize w.alloc (.cells #[u, .int .i64 0] 76) = W at this ⊢
      simp [World.frozen?, this]
    · exact .inr fun us h1 h2 => hu ⟨us, h1, h2⟩
  have HNEW := Lib.hid hnew
  clear hnew
  by_cases hl : n ≤ 2000
  · have HR : Hid (RdOk w w.heap.size 0 (w.alloc (.cells #[.slice a n c, .int .i64 0] 76))) := by
      rcases HNEW.out (.slice a n c) with h | h
      · exact h
      · exact absurd ⟨a, c, by rw [HN.out], by rw [← HN.out]; exact hc, HH.out⟩ (h bs (by rw [← HN.out]; exact hl))
    go_enter Tryz.func24, Tryz.ntmps24
    go_wp2
    go_ret
    exact ⟨rfl, HR.out, (Ext.refl w).alloc _⟩
  · have HR : Hid (RdOk w w.heap.size 0 (w.alloc (.cells #[.slice a 2000 c, .int .i64 0] 76))) := by
      rcases HNEW.out (.slice a 2000 c) with h | h
      · exact h
      · have hlen : (bs.take 2000).length = 2000 := by rw [List.length_take, ← HN.out]; omega
        refine absurd ⟨a, c, by rw [hlen], by rw [hlen]; omega, ?_⟩ (h (bs.take 2000) (by rw [hlen]; exact Nat.le_refl _))
        rcases HH.out with h | ⟨b, o, h1, h2, h3⟩
        · exact absurd h (by rw [← HN.out]; omega)
        · exact .inr ⟨b, o, h1, h2, fun i hi => h3 i (by rw [← HN.out]; omega)⟩
    obtain ⟨b, o, rfl, -⟩ : ∃ b o, a = some ⟨b, o, none⟩ ∧ True := by
      rcases HH.out with h | ⟨b, o, h1, -⟩
      · rw [← HN.out] at h; omega
      · exact ⟨b, o, h1, trivial⟩
    go_enter Tryz.func24, Tryz.ntmps24
    go_wp2
    go_ret
    exact ⟨rfl, HR.out, (Ext.refl w).alloc _⟩

theorem upd_setCell (w : World) (b : Nat) (i : Nat) (u : Value) : Upd b w (w.setCell ⟨b, i, none⟩ u) :=
  ⟨rfl, rfl, rfl, by simp, fun k _ hne => Below.heap_setCell _ _ _ _ (fun e => hne e)⟩
theorem RdOk.put {w0 w : World} {b m p : Nat} {v : Value} {bs : List Int} (h1 : Rb w0 v bs) (h2 : bs.length ≤ 2000) (h3 : w0.heap.size ≤ b) (hp : p ≤ m) (c0 : w.cell? ⟨b, 0, none⟩ = some v) (c1 : w.cell? ⟨b, 1, none⟩ = some (.int .i64 (p : Nat))) (f1 : w.frozen? ⟨b, 1, none⟩ = false) (hlt : b < w.heap.size) (hx : Ext w0 w) :
    RdOk w0 b (m + 1) (w.setCell ⟨b, 1, none⟩ (.int .i64 (((p + 1 : Nat)) : Int))) :=
  ⟨v, bs, p + 1, h1, h2, h3, by omega, (World.cell?_setCell_other _ _ _ _ (by simp)).trans c0, World.cell?_setCell_same' _ _ _ (by rw [c1]; rfl), by rw [World.frozen?_setCell]; exact f1, by simpa using hlt, hx.setCell h3 _⟩

set_option maxRecDepth 100000 in
set_option maxHeartbeats 4000000 in
theorem pick_c (w0 : World) (b m n : Nat) (w : World) (h : RdOk w0 b m w) (hm : m ≤ 1000000) (hn : 1 ≤ n) (hn2 : n ≤ 1000000) :
    Calls Tryz.prog 25 #[.pointer (some ⟨b, 0, none⟩), .int .i64 n] w fun e w' => ∃ x : Nat, e = .returned (.int .i64 x) ∧ x < n ∧ RdOk w0 b (m + 1) w' ∧ Upd b w w' := by
  obtain ⟨v, bs, p, h1, h2, h3, h4, h5, h6, h7, h8, h9⟩ := h
  obtain ⟨V, hV⟩ : ∃ V, V = w.setCell ⟨b, 1, none⟩ (.int .i64 (((p : Nat) : Int) + 1)) := ⟨_, rfl⟩
  have hok : RdOk w0 b (m + 1) V := by rw [hV]; exact RdOk.put h1 h2 h3 h4 h5 h6 h7 h8 h9
  have hup : Upd b w V := by rw [hV]; exact upd_setCell w b 1 _
  have d0 : V.cell? ⟨b, 0, none⟩ = some v := by rw [hV]; exact (World.cell?_setCell_other _ _ _ _ (by simp)).trans h5
  have d1 : V.cell? ⟨b, 1, none⟩ = some (.int .i64 (((p : Nat) : Int) + 1)) := by rw [hV]; exact World.cell?_setCell_same' _ _ _ (by rw [h6]; rfl)
  have hxV : Ext w0 V := hok.ext
  have hbV : b < V.heap.size := hok.lt.2
  have HOK := Lib.hid hok; have HUP := Lib.hid hup
  obtain ⟨a, c, rfl, hc, hb⟩ := h1.ext hxV
  obtain ⟨L, hL⟩ : ∃ L, L = bs.length := ⟨_, rfl⟩
  rw [← hL] at h2 hc hb d0 h5
  have HB := Lib.hid hb
  have HV := Lib.hid hV
  clear hb hL h1 hok hup hxV hc h9 h8
  by_cases hL0 : L = 0
  · have hz : ((L : Int) == 0) = true := by simp [hL0]
    rw [hV] at d0
    go_enter Tryz.func25, Tryz.ntmps25
    go_wp2
    rw [← HV.out]
    go_ret
    exact ⟨0, rfl, by omega, HOK.out, HUP.out⟩
  · have hz : ((L : Int) == 0) = false := by simp [hL0]
    obtain ⟨bb, ob, rfl, hbb, hby⟩ : ∃ bb ob, a = some ⟨bb, ob, none⟩ ∧ bb < V.heap.size ∧ ∀ i, i < L → ∃ y : Nat, y ≤ 255 ∧ V.cell? ⟨bb, ob + i, none⟩ = some (.int .u8 y) := by
      rcases HB.out with h | ⟨x, y, h1, h2, h3⟩
      · exact absurd h hL0
      · exact ⟨x, y, h1, h2, h3⟩
    by_cases hpL : p < L
    · obtain ⟨y, hy, cy⟩ := hby p hpL
      have e0 := d0
      have e1 := d1
      rw [hV] at d0 d1 cy
      clear hby hbb hbV e0 e1 hV
      have hmod : Hid (∃ r : Nat, r < n ∧ ((y : Int) % (n : Int)) = r) := ⟨y % n, Nat.mod_lt _ (by omega), by simp⟩
      obtain ⟨r, hr1, hr2⟩ := hmod.out
      go_enter Tryz.func25, Tryz.ntmps25
      go_wp2
      rw [← HV.out]
      go_ret
      exact ⟨r, ret_int hr2, hr1, HOK.out, HUP.out⟩
    · obtain ⟨i1, hi1, e1⟩ : ∃ i : Nat, i < L ∧ ((p : Int) % (L : Int)) = (i : Int) := ⟨p % L, Nat.mod_lt _ (by omega), by simp⟩
      obtain ⟨i2, hi2, e2⟩ : ∃ i : Nat, i < L ∧ (((p : Int) * 7 + 3) % (L : Int)) = (i : Int) := ⟨(p * 7 + 3) % L, Nat.mod_lt _ (by omega), by simp⟩
      obtain ⟨q, hq, e3⟩ : ∃ i : Nat, i ≤ p ∧ ((p : Int) / (L : Int)) = (i : Int) := ⟨p / L, Nat.div_le_self _ _, by simp⟩
      obtain ⟨y1, hy1, cy1⟩ := hby i1 hi1
      obtain ⟨y2, hy2, cy2⟩ := hby i2 hi2
      obtain ⟨X, hX⟩ : ∃ X : Nat, X = y1 * 131 + y2 * 1117 + p * 29 + q * 53 := ⟨_, rfl⟩
      have e4 : (y1 : Int) * 131 + (y2 : Int) * 1117 + (p : Int) * 29 + (q : Int) * 53 = (X : Int) := by omega
      have hXs : X ≤ 1000000000 := by omega
      obtain ⟨X6, hX6, e5⟩ : ∃ i : Nat, i ≤ X ∧ ((X : Int) / 64) = (i : Int) := ⟨X / 64, Nat.div_le_self _ _, by simp⟩
      obtain ⟨Z, hZ, e6⟩ : ∃ Z : Nat, Z ≤ 1073741823 ∧ bits .xor .i64 (X : Int) (X6 : Int) = (Z : Int) := ⟨bxor X X6, by have := bxor_lt (x := X) (y := X6) (n := 30) (by omega) (by omega); omega, bits_xor X X6 (by omega) (by omega)⟩
      obtain ⟨r, hr1, hr2⟩ : ∃ r : Nat, r < n ∧ ((Z : Int) % (n : Int)) = r := ⟨Z % n, Nat.mod_lt _ (by omega), by simp⟩
      have k0 := fun u => ((clip_ext V u).cell hbV).trans d0
      have k2 := fun u => ((clip_ext V u).cell hbb).trans cy1
      have k3 := fun u => ((clip_ext V u).cell hbb).trans cy2
      have HXC := Lib.hid fun u => clip_ext V u
      rw [hV] at d0 d1
      clear hby hbb hbV cy1 cy2 hX hV
      go_enter Tryz.func25, Tryz.ntmps25
      go_wp2
      rw [← HV.out]
      refine wp_region_ext (by kernel_rfl) (by kernel_rfl) ?_
      repeat (go_big_quiet_step (fail))
      refine wpQuiet_nil ?_
      rintro _ ⟨u, rfl⟩
      go_wp2
      go_ret
      exact ⟨r, ret_int hr2, hr1, HOK.out.next (HXC.out u), HUP.out.trans (Upd.of_ext (HXC.out u))⟩
end Go.Proofs.YtkmfmhckpfomeaaGreatDoor

/- Edges: a row of pairs of the call's own; the reference puts them into a graph. The condition: at most 100 edges of nodes below n <= 12. -/
namespace Go.Proofs.YtkmfmhckpfomeaaGreatDoor
open Go.RowKit
open BigFrame

/-- One edge: a row of two unlike nodes. -/
def Edge (w : World) (base n : Nat) (v e : Value) : Prop :=
  ∃ g a b : Nat, e = .slice (some ⟨g, 0, none⟩) 2 2 ∧ base ≤ g ∧ g < w.heap.size ∧ a < n ∧ b < n ∧ a ≠ b ∧ w.cell? ⟨g, 0, none⟩ = some (.int .i64 a) ∧ w.cell? ⟨g, 1, none⟩ = some (.int .i64 b) ∧ v.ownBlock ≠ some g
def Edges (w : World) (base n : Nat) (v : Value) (es : List Value) : Prop := OwnRows w base v es ∧ ∀ e ∈ es, Edge w base n v e
theorem Edge.ext {w w' : World} {base n : Nat} {v e : Value} (h : Edge w base n v e) (hx : Ext w w') : Edge w' base n v e := by
  obtain ⟨g, a, b, h1, h2, h3, h4, h5, h6, h7, h8, h9⟩ := h
  exact ⟨g, a, b, h1, h2, Nat.lt_of_lt_of_le h3 hx.size, h4, h5, h6, (hx.cell h3).trans h7, (hx.cell h3).trans h8, h9⟩
theorem Edges.ext {w w' : World} {base n : Nat} {v : Value} {es : List Value} (h : Edges w base n v es) (hx : Ext w w') : Edges w' base n v es :=
  ⟨h.1.ext hx, fun e he => (h.2 e he).ext hx⟩
theorem Edges.upd {w w' : World} {base n k : Nat} {v : Value} {es : List Value} (h : Edges w base n v es) (hk : k < base) (hu : Upd k w w') : Edges w' base n v es := by
  obtain ⟨⟨h1, h2⟩, h3⟩ := h
  refine ⟨⟨h1, ?_⟩, ?_⟩
  · rcases h2 with h2 | ⟨g, cap, cur, hv, hg, hh, r⟩
    · exact Or.inl h2
    · exact Or.inr ⟨g, cap, cur, hv, hg, (hu.block g (Array.getElem?_eq_some_iff.1 hh).1 (by omega)).trans hh, r⟩
  · intro e he
    obtain ⟨g, a, b, h1, h2, h3, h4, h5, h6, h7, h8, h9⟩ := h3 e he
    exact ⟨g, a, b, h1, h2, Nat.lt_of_lt_of_le h3 hu.size, h4, h5, h6, (hu.cell h3 (by omega)).trans h7, (hu.cell h3 (by omega)).trans h8, h9⟩
theorem Edges.lit (w : World) (n : Nat) : Edges (w.alloc (.cells #[] 29)) w.heap.size n (.slice (some ⟨w.heap.size, 0, none⟩) 0 0) [] :=
  ⟨World.ownsRow_lit w #[] 0 (Nat.le_refl _) (by unfold maxLen; omega) rfl, fun _ h => by cases h⟩
theorem Edges.mono {w : World} {base base' n : Nat} {v : Value} {es : List Value} (h : Edges w base n v es) (hb : base' ≤ base) : Edges w base' n v es := by
  obtain ⟨⟨h1, h2⟩, h3⟩ := h
  refine ⟨⟨h1, ?_⟩, fun e he => ?_⟩
  · rcases h2 with h2 | ⟨g, cap, cur, hv, hg, r⟩
    · exact Or.inl h2
    · exact Or.inr ⟨g, cap, cur, hv, Nat.le_trans hb hg, r⟩
  · obtain ⟨g, a, b, h1, h2, h3⟩ := h3 e he
    exact ⟨g, a, b, h1, Nat.le_trans hb h2, h3⟩
/-- What it is: nil, or a row whose elements are known. -/
theorem Edges.get {w : World} {base n : Nat} {v : Value} {es : List Value} (h : Edges w base n v es) :
    (v = .slice none 0 0 ∧ es = []) ∨ ∃ g c, v = .slice (some ⟨g, 0, none⟩) es.length c ∧ base ≤ g ∧ g < w.heap.size ∧ ∀ i, i < es.length → w.cell? ⟨g, i, none⟩ = some (es.getD i undef) := by
  obtain ⟨h0, -⟩ := h
  have h0' := h0
  obtain ⟨h1, ⟨hv, h2⟩ | ⟨g, cap, cur, hv, hg, hh, h3, h4, h5, h6⟩⟩ := h0
  · exact .inl ⟨hv, List.eq_nil_of_length_eq_zero h2⟩
  · subst hv
    refine .inr ⟨g, cap, rfl, hg, (Array.getElem?_eq_some_iff.1 hh).1, fun i hi => ?_⟩
    rw [World.ownsRow.cellAt h0' i (by omega)]
    simp [hi]
theorem OwnRows.block_lt {w : World} {base : Nat} {v : Value} {vs : List Value} (h : OwnRows w base v vs) : ∀ k, v.ownBlock = some k → base ≤ k ∧ k < w.heap.size := World.ownsRow.lt h
/-- One edge more, put behind by append. -/
theorem wpList_append_edge {ops : Array Oper} {rest : List Oper} {o : Oper} {a : Act} {Q : Exit → Act → World → Prop} {w : World} (hgd : o.guard = none) (s x : Operand)
    (ho : o.op = .call { callee := .builtin .append, args := #[s, x], argTypes := #[70, 70] })
    (base n : Nat) (v : Value) (es : List Value) (hs : a.eval s = v) (hown : Edges w base n v es) (g : Nat) (y : Value) (hy : y.oneCell' = true) (he : Edge w base n v y) (hx : a.eval x = .slice (some ⟨g, 0, none⟩) 1 1)
    (hc : w.cell? ⟨g, 0, none⟩ = some y) (hn : es.length ≤ 1048576) (hb : base ≤ w.heap.size)
    (h : ∀ v' w', Edges w' base n v' (es ++ [y]) → Below base w w' → wpList Tryz.prog ops Q rest (a.put o.dst v') w') : wpList Tryz.prog ops Q (o :: rest) a w := by
  obtain ⟨i0, hi, hz0, hz1, hz2⟩ := info_parts info_row
  refine wpList_append_lies w hgd s x 70 ho base 29 i0 (.slice none 0 0) 1 24 Tryz.underlying70 hi hz0 hz1 hz2 rfl (by decide) v es.length _ hs hown.1 ⟨g, 0, none⟩ 1 1 [y] hx rfl ?_ (fun u hu => by simp at hu; subst hu; exact hy) (by omega) (by unfold maxLen; omega) (by omega) hb _ rfl ?_
  · intro j u hu
    cases j with
    | zero => simp at hu; subst hu; exact hc
    | succ j => simp at hu
  · intro g' cap w' h1 h2 h3 _
    have hbel : Below base w w' := Below.grown (Below.refl _ _) h2 hb (fun k hk => (hown.1.block_lt k hk).1)
    refine h _ w' ⟨?_, ?_⟩ hbel
    · unfold OwnRows; simpa using h1
    · intro e he'
      have : Edge w base n v e := by
        rcases List.mem_append.1 he' with h4 | h4
        · exact hown.2 e h4
        · simp at h4; subst h4; exact he
      obtain ⟨ge, ea, eb, e1, e2, e3, e4, e5, e6, e7, e8, e9⟩ := this
      have hblk : w'.heap[ge]? = w.heap[ge]? := h2.block ge e3 (fun hh => e9 hh.symm)
      refine ⟨ge, ea, eb, e1, e2, Nat.lt_of_lt_of_le e3 hbel.size, e4, e5, e6, ?_, ?_, ?_⟩
      · rw [← e7]; simp only [World.cell?, hblk]
      · rw [← e8]; simp only [World.cell?, hblk]
      · show some g' ≠ some ge
        rcases h3 with h3 | h3
        · rw [← h3]; exact e9
        · intro hh; simp only [Option.some.injEq] at hh; omega
/-- A fresh pair. -/
theorem Edge.new {w : World} {base n : Nat} {v : Value} {es : List Value} (h : Edges w base n v es) (a b : Nat) (ha : a < n) (hb : b < n) (hab : a ≠ b) (hbase : base ≤ w.heap.size) (t : TypeId) :
    Edge (w.alloc (.cells #[.int .i64 a, .int .i64 b] t)) base n v (.slice (some ⟨w.heap.size, 0, none⟩) 2 2) := by
  have h3 := two_cells (World.alloc_heap_new w (.cells #[.int .i64 a, .int .i64 b] t))
  refine ⟨w.heap.size, a, b, rfl, hbase, by simp, ha, hb, hab, h3.1, h3.2, fun hh => ?_⟩
  have := (h.1.block_lt _ hh).2
  omega
end Go.Proofs.YtkmfmhckpfomeaaGreatDoor

/- The reference's graph of edges, of a kind. The condition: at most 100 edges of nodes below n <= 12. -/
namespace Go.Proofs.YtkmfmhckpfomeaaGreatDoor
open Go.RowKit
open BigFrame

theorem rep_low (n : Nat) : ∀ i, getI (List.replicate n (0 : Int)) i < 9223372036854775808 := fun i => by
  unfold getI
  rw [List.getD_eq_getElem?_getD, List.getElem?_replicate]
  split <;> decide
theorem set_low {gs : List Int} {x : Nat} {z : Int} (h : ∀ i, getI gs i < 9223372036854775808) (hz : z < 9223372036854775808) : ∀ i, getI (gs.set x z) i < 9223372036854775808 := fun i => by
  unfold getI
  rw [List.getD_eq_getElem?_getD, List.getElem?_set]
  have := h i
  unfold getI at this
  rw [List.getD_eq_getElem?_getD] at this
  split
  · split
    · exact hz
    · decide
  · exact this

set_option maxRecDepth 100000 in
set_option maxHeartbeats 4000000 in
theorem graphOfB_c (base n : Nat) (v : Value) (es : List Value) (w : World) (hE : Edges w base n v es) (hn1 : 1 ≤ n) (hn : n ≤ 12) (hl : es.length ≤ 200) :
    Calls Tryz.prog 46 #[.int .i64 n, v] w fun e w' => ∃ (g c : Nat) (gs : List Int), e = .returned (.tuple #[.slice (some ⟨g, 0, none⟩) n c, .bool true]) ∧ gs.length = n ∧ (∀ i, getI gs i < 9223372036854775808) ∧ Own w' w.heap.size (.slice (some ⟨g, 0, none⟩) n c) gs ∧ Ext w w' := by
  obtain ⟨i0, hi, hz0, hz1, hz2⟩ := info_parts info_int
  have hin : inB 1 (n : Int) 12 = true := inB_iff.2 ⟨by omega, by omega⟩
  have HE := Lib.hid hE
  obtain ⟨a, lc, hv⟩ : ∃ a lc, v = .slice a es.length lc := by
    rcases hE.get with ⟨h1, h2⟩ | ⟨g, c, h1, -⟩
    · exact ⟨none, 0, by rw [h1, h2]; rfl⟩
    · exact ⟨_, c, h1⟩
  subst hv
  obtain ⟨L, hL⟩ : ∃ L, L = es.length := ⟨_, rfl⟩
  rw [← hL] at hl
  have HL := Lib.hid hL
  have HE' : Hid (Edges w base n (.slice a L lc) es) := by rw [hL]; exact hE
  rw [← hL]
  clear hE hL HE
  go_enter Tryz.func46, Tryz.ntmps46
  go_wp2_with (first
    | (go_at_call 37; refine (l6In_c _ _ _ _).mono ?_; rintro e w' ⟨rfl, rfl⟩)
    | (at_make; refine wpList_make_full _ rfl _ _ 29 rfl w.heap.size 3 i0 (.int .i64 0) 1 Tryz.underlying29 hi hz0 hz1 _ _ _ _ n rfl rfl rfl rfl (by rw [hz2]; omega) (by unfold maxLen; omega) (Nat.le_refl _) ?_; intro w1 hown hgr))
  have hrow : Own w1 w.heap.size (.slice (some ⟨w.heap.size, 0, none⟩) n n) (List.replicate n 0) := by
    have := hown
    simp only [Value.cells, Nat.mul_one, toList_madeCells_one] at this
    unfold Own; simpa using this
  have hx1 : Ext w w1 := (Ext.refl w).grown hgr (fun _ h => by cases h)
  have HR := Lib.hid hrow; have HX := Lib.hid hx1
  clear hown hgr hi hz0 hz1 hz2 hrow hx1
  go_loopw [7] (fun i wr => ∃ (k : Nat) (gs : List Int), k ≤ L ∧ i = .int .i64 k ∧ Hid (gs.length = n) ∧ Hid (∀ i, getI gs i < 9223372036854775808) ∧ Hid (Own wr w.heap.size (.slice (some ⟨w.heap.size, 0, none⟩) n n) gs) ∧ Hid (Ext w wr)) (fun i _ => L - (intOf i).toNat)
  case atStart => exact ⟨0, _, Nat.zero_le _, rfl, by unfold Hid; simp, rep_low n, HR, HX⟩
  case round =>
    clear HR HX
    obtain ⟨k, gs, hk, rfl, HGL, HLO, HR, HX⟩ := hrel
    by_cases hlt : k < L
    · obtain ⟨bv, rfl, hbv, hcv⟩ : ∃ bv, a = some ⟨bv, 0, none⟩ ∧ bv < w.heap.size ∧ w.cell? ⟨bv, k, none⟩ = some (es.getD k undef) := by
        rcases HE'.out.get with ⟨h1, h2⟩ | ⟨g, c, h1, h2, h3, h4⟩
        · rw [HL.out, h2] at hlt; cases hlt
        · simp only [Value.slice.injEq] at h1
          exact ⟨g, h1.1, h3, h4 k (by rw [← HL.out]; exact hlt)⟩
      obtain ⟨ge, x, y, e1, -, e3, e4, e5, e6, e7, e8, -⟩ := HE'.out.2 (es.getD k undef) (by rw [List.getD_eq_getElem?_getD, List.getElem?_eq_getElem (show k < es.length by rw [← HL.out]; exact hlt)]; exact List.getElem_mem _)
      rw [e1] at hcv
      have c1 := (HX.out.cell hbv).trans hcv
      have c2 := (HX.out.cell e3).trans e7
      have c3 := (HX.out.cell e3).trans e8
      have hne : ((x : Int) == (y : Int)) = false := by simp; omega
      obtain ⟨n1, hn1'⟩ : ∃ n1 : Nat, (n : Int) - 1 = (n1 : Int) := ⟨n - 1, by omega⟩
      have i1 : inB 0 (x : Int) (n1 : Int) = true := inB_iff.2 ⟨by omega, by omega⟩
      have i2 : inB 0 (y : Int) (n1 : Int) = true := inB_iff.2 ⟨by omega, by omega⟩
      obtain ⟨px, hpx, hpx1, hpx2, hpx3⟩ := pow_var x (by omega)
      obtain ⟨py, hpy, hpy1, hpy2, hpy3⟩ := pow_var y (by omega)
      have ex : min x 64 = x := by omega
      have ey : min y 64 = y := by omega
      obtain ⟨-, -, -, hbr, hcl, hfr⟩ := HR.out.at
      have c4 := hcl x (by omega)
      have f4 := hfr x
      have f5 := hfr y
      have HO := Lib.hid fun (z : Int) => HR.out.set x z
      have HXS := Lib.hid fun (z : Value) => HX.out.setCell (p := ⟨w.heap.size, x, none⟩) (Nat.le_refl _) z
      have HNE := Lib.hid e6
      clear hcl hfr e1 hpx hpy hcv e7 e8 e6
      go_wp2_with (go_at_call 37; refine (l6In_c _ _ _ _).mono ?_; rintro e w' ⟨rfl, rfl⟩)
      go_region
      have HZ1 : Hid (bits BinOp.or IntKind.i64 (gs[x]?.getD 0) (py : Int) < 9223372036854775808) := Int.lt_of_le_of_lt (bits_hi_i64 _ _ _) (by decide)
      generalize bits BinOp.or IntKind.i64 (gs[x]?.getD 0) (py : Int) = z at HZ1 ⊢
      obtain ⟨W2, hW2⟩ : ∃ W2, W2 = (wr.setCell { block := w.heap.size, off := x } (Value.int IntKind.i64 z)).drew := ⟨_, rfl⟩
      rw [← hW2]
      have HO2 : Hid (Own W2 w.heap.size (.slice (some ⟨w.heap.size, 0, none⟩) n n) (gs.set x z)) := by rw [hW2]; exact (HO.out z).drew
      have HX2 : Hid (Ext w W2) := by rw [hW2]; exact (HXS.out _).drew
      have HGL2 : Hid ((gs.set x z).length = n) := by unfold Hid; rw [List.length_set]; exact HGL.out
      have HLO2 : Hid (∀ i, getI (gs.set x z) i < 9223372036854775808) := set_low HLO.out HZ1.out
      clear hW2 HO HXS f5 f4 c4 c1 c2 c3 hbr HGL HR HX HLO HZ1
      generalize gs.set x z = gs2 at HO2 HGL2 HLO2
      obtain ⟨-, -, -, hbr, hcl, hfr⟩ := HO2.out.at
      have c5 := hcl y (by omega)
      have f6 := hfr y
      have HO3 := Lib.hid fun (z : Int) => HO2.out.set y z
      have HXS := Lib.hid fun (z : Value) => HX2.out.setCell (p := ⟨w.heap.size, y, none⟩) (Nat.le_refl _) z
      clear hcl hfr
      go_wp2
      go_region
      have HZ2 : Hid (bits BinOp.or IntKind.i64 (gs2[y]?.getD 0) (px : Int) < 9223372036854775808) := Int.lt_of_le_of_lt (bits_hi_i64 _ _ _) (by decide)
      generalize bits BinOp.or IntKind.i64 (gs2[y]?.getD 0) (px : Int) = z2 at HZ2 ⊢
      go_wp2
      go_roundw
      case rel => exact ⟨k + 1, gs2.set y z2, by omega, by go_num, by unfold Hid; rw [List.length_set]; exact HGL2.out, set_low HLO2.out HZ2.out, (HO3.out z2).drew, (HXS.out _).drew⟩
      case measure => simp [intOf]; omega
    · go_wp2
      go_ret2
      exact ⟨_, _, gs, rfl, HGL.out, HLO.out, HR.out, HX.out⟩
theorem graphOfS_c (base n : Nat) (v : Value) (es : List Value) (w : World) (hE : Edges w base n v es) (hn1 : 1 ≤ n) (hn : n ≤ 12) (hl : es.length ≤ 200) :
    Calls Tryz.prog 46 #[.int .i64 n, v] w fun e w' => ∃ (g c : Nat) (gs : List Int), e = .returned (.tuple #[.slice (some ⟨g, 0, none⟩) n c, .bool true]) ∧ gs.length = n ∧ Own w' w.heap.size (.slice (some ⟨g, 0, none⟩) n c) gs ∧ Ext w w' :=
  (graphOfB_c base n v es w hE hn1 hn hl).mono fun _ _ ⟨g, c, gs, h1, h2, _, h3⟩ => ⟨g, c, gs, h1, h2, h3⟩
end Go.Proofs.YtkmfmhckpfomeaaGreatDoor
