/- What the walk of FnSensorFind rests on, part 3: plain facts, and contracts of the functions that it reaches. Each states its own condition. -/
import Derived.Test.YtpmammklklkheaaFnSensorFindP2
import Derived.Test.YtpmammklklkheaaFnSensorFindP1
/- The two iterators of the program: the nodes of a set, ascending; the sets of at most so many items, ascending. The bounds are those that each names. -/
namespace Go.Proofs.Ytpmammklklkheaa
open Go.RowKit
open BigFrame
attribute [local go_sem] Oper.semAt_some

theorem nodes_c (s : Nat) (w : World) :
    Calls Try.prog 79 #[.int .i64 s] w fun e w' => e = .returned (.func (.func 111) #[] #[.pointer (some ⟨w.heap.size, 0, none⟩)]) ∧ w' = w.alloc (.cells #[.int .i64 s] 3) := by
  go_enter Try.func79, Try.ntmps79
  go_wp2
  go_ret
  exact ⟨rfl, rfl⟩
theorem nodes_enters : ∀ args w, (callFunc 111 args).run Try.prog w = .ok (.enter 111 args) w :=
  Go.Proofs.enters_of Try.func111 (by kernel_rfl) rfl

theorem skip_to {p : Nat → Bool} {N : Nat} {J : Nat → World → Prop} (h : ∀ k W, k < N → p k = false → J k W → J (k + 1) W) {W : World} : ∀ d k, k + d = N → (∀ j, k ≤ j → p j = false) → J k W → J N W
  | 0, k, hk, _, hj => by rwa [show k = N from by omega] at hj
  | d + 1, k, hk, hp, hj => skip_to h d (k + 1) (by omega) (fun j hj => hp j (by omega)) (h k W (by omega) (hp k (Nat.le_refl _)) hj)

set_option maxRecDepth 100000 in
set_option maxHeartbeats 1000000 in
theorem nodes_iter (B s N : Nat) (hs : s < 2 ^ N) (hN : N ≤ 62) :
    Iter Try.prog 111 #[.pointer (some ⟨B, 0, none⟩)] (fun k => s.testBit k) N (fun W => W.cell? ⟨B, 0, none⟩ = some (.int .i64 s)) := by
  intro l J Jx W hJ hKi hY hskip h0
  have hs62 : s < 2 ^ 62 := Nat.lt_of_lt_of_le hs (Nat.pow_le_pow_right (by omega) hN)
  have HK := Lib.hid hKi; clear hKi
  have HY := Lib.hid hY; clear hY
  have HS := Lib.hid hskip; clear hskip hJ
  refine callsIn_of_wp Try.func111 rfl trivial ?_ rfl
  simp only [Try.ntmps111, List.size_toArray, List.length_cons, List.length_nil, Nat.reduceAdd, Nat.reduceSub, Array.replicate_succ, Array.replicate_zero, List.push_toArray, List.append_toArray, List.nil_append, List.cons_append]
  gi_wp2
  gi_loopw [3] (fun i wr => ∃ k : Nat, k ≤ N ∧ i = .int .i64 k ∧ J k wr) (fun i _ => N - (intOf i).toNat)
  case atStart => exact ⟨0, Nat.zero_le _, rfl, h0⟩
  case round =>
    clear h0
    obtain ⟨k, hk, rfl, hj⟩ := hrel
    have HJ := Lib.hid hj; clear hj
    have hc : wr.cell? ⟨B, 0, none⟩ = some (.int .i64 s) := HK.out k wr HJ.out
    have e0 : min k 64 = k := by omega
    have e1 := div_pow_nat s k
    by_cases hz : 0 < shr s k
    · have hkN : k < N := by
        rcases Nat.lt_or_ge k N with h | h
        · exact h
        · exfalso
          have : shr s k = 0 := by
            unfold shr
            rw [Nat.shiftRight_eq_div_pow]
            exact Nat.div_eq_of_lt (Nat.lt_of_lt_of_le hs (Nat.pow_le_pow_right (by omega) h))
          omega
      cases hb : s.testBit k
      · have HB := hb
        gi_wp2_with (gi_at_call 110; refine (callsFW (ro := none) (has_c s k hs62 (by omega) _)).mono ?_; rintro e w' ⟨rfl, rfl⟩)
        go_roundw
        case rel => exact ⟨k + 1, by omega, by go_num, HS.out k _ hkN HB HJ.out⟩
        case measure => simp [intOf]; omega
      · obtain ⟨fn, tmps, assign, body, hy, hR⟩ := HY.out k wr hkN hb HJ.out
        have HR := Lib.hid hR; clear hR
        gi_wp2_with (gi_at_call 110; refine (callsFW (ro := none) (has_c s k hs62 (by omega) _)).mono ?_; rintro e w' ⟨rfl, rfl⟩)
        refine HR.out.mono ?_
        rintro e W3 (⟨rfl, hJ3⟩ | ⟨rfl, hJx3⟩)
        · have HJ3 := Lib.hid hJ3; clear hJ3
          gi_wp2
          go_roundw
          case rel => exact ⟨k + 1, by omega, by go_num, HJ3.out⟩
          case measure => simp [intOf]; omega
        · have HJ3 := Lib.hid hJx3; clear hJx3
          gi_wp2
          refine bodyPost_ret (results_none rfl _ _ _) rfl ?_
          exact ⟨⟨_, rfl⟩, .inr HJ3.out⟩
    · have hz' : shr s k = 0 := by omega
      have HZ := Lib.hid hz'; clear hz'
      gi_wp2
      go_end0
      refine ⟨⟨_, rfl⟩, .inl (skip_to HS.out (N - k) k (by omega) (fun j hj => ?_) HJ.out)⟩
      have h1 : s < 2 ^ k := by
        have := HZ.out
        unfold shr at this
        rw [Nat.shiftRight_eq_div_pow] at this
        exact (Nat.div_eq_zero_iff_lt (Nat.two_pow_pos k)).1 this
      exact Nat.testBit_lt_two_pow (Nat.lt_of_lt_of_le h1 (Nat.pow_le_pow_right (by omega) hj))

/-! ### The sets of at most d of the items -/
theorem few_c (items d : Int) (a : Option Addr) (n c : Nat) (w : World) :
    Calls Try.prog 84 #[.agg #[.int .i64 items, .slice a n c], .int .i64 d] w fun e w' =>
      e = .returned (.func (.func 114) #[] #[.pointer (some ⟨w.heap.size, 0, none⟩), .pointer (some ⟨w.heap.size + 1, 0, none⟩)]) ∧ w' = (w.alloc (.cells #[.int .i64 items, .slice a n c] 67)).alloc (.cells #[.int .i64 d] 3) := by
  go_enter Try.func84, Try.ntmps84
  go_wp2
  go_ret
  exact ⟨rfl, rfl⟩
theorem few_enters : ∀ args w, (callFunc 114 args).run Try.prog w = .ok (.enter 114 args) w :=
  Go.Proofs.enters_of Try.func114 (by kernel_rfl) rfl
def fewB (d k : Nat) : Bool := decide (cnt k ≤ d)

set_option maxRecDepth 100000 in
set_option maxHeartbeats 1000000 in
theorem few_iter (Bp Bd items d : Nat) (hN : items ≤ 12) :
    Iter Try.prog 114 #[.pointer (some ⟨Bp, 0, none⟩), .pointer (some ⟨Bd, 0, none⟩)] (fewB d) (2 ^ items)
      (fun W => W.cell? ⟨Bp, 0, none⟩ = some (.int .i64 items) ∧ W.cell? ⟨Bd, 0, none⟩ = some (.int .i64 d) ∧ Bp < W.heap.size ∧ Bd < W.heap.size) := by
  intro l J Jx W hJ hKi hY hskip h0
  obtain ⟨N, hN1, hN2, hN3, hN4⟩ : ∃ N : Nat, 2 ^ items = N ∧ (2 : Int) ^ items = (N : Int) ∧ 1 ≤ N ∧ N ≤ 4096 := ⟨_, rfl, pow_cast _, Nat.one_le_two_pow, pow_le_12 hN⟩
  rw [hN1] at hY hskip ⊢
  have HN := Lib.hid hN1; clear hN1
  have HK := Lib.hid hKi; clear hKi
  have HY := Lib.hid hY; clear hY
  have HS := Lib.hid hskip; clear hskip
  have HE := Lib.hid hJ; clear hJ
  obtain ⟨c0, -⟩ := HK.out 0 W h0
  have e0 : min items 64 = items := by omega
  refine callsIn_of_wp Try.func114 rfl trivial ?_ rfl
  simp only [Try.ntmps114, List.size_toArray, List.length_cons, List.length_nil, Nat.reduceAdd, Nat.reduceSub, Array.replicate_succ, Array.replicate_zero, List.push_toArray, List.append_toArray, List.nil_append, List.cons_append]
  gi_wp2
  clear c0
  gi_loopw [8] (fun i wr => ∃ k : Nat, k ≤ N ∧ i = .int .i64 k ∧ J k wr) (fun i _ => N - (intOf i).toNat)
  case atStart => exact ⟨0, Nat.zero_le _, rfl, h0⟩
  case round =>
    clear h0
    obtain ⟨k, hk, rfl, hj⟩ := hrel
    have HJ := Lib.hid hj; clear hj
    obtain ⟨-, c1, -, hlt1⟩ := HK.out k wr HJ.out
    have c2 : ∀ u, (clip wr u).cell? ⟨Bd, 0, none⟩ = some (.int .i64 d) := fun u => (clip_cell wr u hlt1).trans c1
    clear c1
    by_cases hz : k < N
    · have hpop := Lib.hid (pop64_small k (by omega))
      have hle := pop64_le k
      cases hb : fewB d k
      · have HB : Hid (fewB d k = false) := hb
        have hb' : decide (pop64 k ≤ d) = false := by rw [hpop.out]; exact hb
        clear hb
        gi_wp2
        refine wpIn_quiet_tail (ro := none) (C := fun w' => ∃ u, w' = clip wr u) 7 (by kernel_rfl) (by kernel_rfl) (by kernel_rfl) ⟨_, (clip_of (Ext.refl wr).drew).symm⟩ ?_
        simp only [List.take_succ_cons, List.take_zero, List.drop_succ_cons, List.drop_zero]
        repeat (go_big_quiet_step ((go_at_call 57; exact Calls.clip_same (size_c k (by omega) _))))
        refine wpQuiet_nil ?_
        rintro _ ⟨u, rfl⟩
        gi_wp2
        go_roundw
        case rel => exact ⟨k + 1, by omega, by go_num, HE.out _ _ _ (clip_ext wr u) (HS.out k _ hz HB.out HJ.out)⟩
        case measure => simp [intOf]; omega
      · have HB : Hid (fewB d k = true) := hb
        have hb' : decide (pop64 k ≤ d) = true := by rw [hpop.out]; exact hb
        clear hb
        gi_wp2
        refine wpIn_quiet_tail (ro := none) (C := fun w' => ∃ u, w' = clip wr u) 7 (by kernel_rfl) (by kernel_rfl) (by kernel_rfl) ⟨_, (clip_of (Ext.refl wr).drew).symm⟩ ?_
        simp only [List.take_succ_cons, List.take_zero, List.drop_succ_cons, List.drop_zero]
        repeat (go_big_quiet_step ((go_at_call 57; exact Calls.clip_same (size_c k (by omega) _))))
        refine wpQuiet_nil ?_
        rintro _ ⟨u, rfl⟩
        obtain ⟨fn, tmps, assign, body, hy, hR⟩ := HY.out k _ hz HB.out (HE.out _ _ _ (clip_ext wr u) HJ.out)
        have HR := Lib.hid hR; clear hR
        gi_wp2
        refine HR.out.mono ?_
        rintro e W3 (⟨rfl, hJ3⟩ | ⟨rfl, hJx3⟩)
        · have HJ3 := Lib.hid hJ3; clear hJ3
          gi_wp2
          go_roundw
          case rel => exact ⟨k + 1, by omega, by go_num, HJ3.out⟩
          case measure => simp [intOf]; omega
        · have HJ3 := Lib.hid hJx3; clear hJx3
          gi_wp2
          refine bodyPost_ret (results_none rfl _ _ _) rfl ?_
          exact ⟨⟨_, rfl⟩, .inr HJ3.out⟩
    · obtain rfl : k = N := by omega
      gi_wp2
      go_end0
      exact ⟨⟨_, rfl⟩, .inl HJ.out⟩
end Go.Proofs.Ytpmammklklkheaa

/- Which lists are graphs: the reference and the program agree with the plain function. The condition: the list has at most 2^20 numbers. -/
namespace Go.Proofs.Ytpmammklklkheaa
open Go.RowKit
open BigFrame

theorem Rd.atI {w : World} {a : Option Addr} {n c : Nat} {xs : List Int} (h : Rd w (.slice a n c) xs) {k : Nat} (hk : k < n) :
    ∃ b o, a = some ⟨b, o, none⟩ ∧ n = xs.length ∧ b < w.heap.size ∧ ∀ w', Ext w w' → w'.cell? ⟨b, o + k, none⟩ = some (.int .i64 (getI xs k)) := by
  obtain ⟨a', c', e, h⟩ := h
  simp only [Value.slice.injEq] at e
  obtain ⟨rfl, rfl, rfl⟩ := e
  rcases h with h | ⟨b, o, rfl, hb, hc, h⟩
  · omega
  · exact ⟨b, o, rfl, rfl, hb, fun w' hx => (hx.cell hb).trans (h k hk)⟩

theorem cell_of_heap {W : World} {b : Nat} {v : Value} {t : TypeId} (h : W.heap[b]? = some (.cells #[v] t (0, 0))) : W.cell? ⟨b, 0, none⟩ = some v ∧ W.frozen? ⟨b, 0, none⟩ = false := by
  constructor <;> simp [World.cell?, World.frozen?, h]
theorem one_new (w : World) (x : Value) (t : TypeId) : ∃ W, W = w.alloc (.cells #[x] t) ∧ Ext w W ∧ W.heap.size = w.heap.size + 1 ∧ W.cell? ⟨w.heap.size, 0, none⟩ = some x ∧ W.frozen? ⟨w.heap.size, 0, none⟩ = false :=
  ⟨_, rfl, (Ext.refl w).alloc _, by simp, cell_of_heap (World.alloc_heap_new w _)⟩
/-- Two variables that have just been laid. -/
theorem two_new (w : World) (x y : Value) (t u : TypeId) :
    ∃ W, W = (w.alloc (.cells #[x] t)).alloc (.cells #[y] u) ∧ Ext w W ∧ W.heap.size = w.heap.size + 2 ∧ W.cell? ⟨w.heap.size, 0, none⟩ = some x ∧ W.cell? ⟨w.heap.size + 1, 0, none⟩ = some y ∧ W.frozen? ⟨w.heap.size, 0, none⟩ = false ∧ W.frozen? ⟨w.heap.size + 1, 0, none⟩ = false := by
  have h1 := cell_of_heap (World.alloc_heap_new (w.alloc (.cells #[x] t)) (.cells #[y] u))
  have h2 := cell_of_heap ((Below.heap_alloc (w.alloc (.cells #[x] t)) (.cells #[y] u) w.heap.size (by simp)).trans (World.alloc_heap_new w (.cells #[x] t)))
  simp only [World.size_alloc] at h1
  exact ⟨_, rfl, ((Ext.refl w).alloc _).alloc _, by simp, h2.1, h1.1, h2.2, h1.2⟩

set_option maxHeartbeats 1000000 in
theorem graphInS_c (v : Value) (g : List Int) (w : World) (hv : Rd w v g) (hm : g.length ≤ 1048576) :
    Calls Try.prog 63 #[v] w fun e w' => e = .returned (.bool (graphIn g)) ∧ Ext w w' := by
  obtain ⟨a, c, rfl⟩ := hv.form
  have HV := Lib.hid hv; clear hv
  cases h0 : inB 1 g.length 12
  · go_enter Try.func63, Try.ntmps63
    go_wp2_with (go_at_call 65; refine (l6In_c _ _ _ _).mono ?_; rintro e w' ⟨rfl, rfl⟩)
    go_ret
    exact ⟨ret_bool (graphIn_len h0).symm, Ext.refl _⟩
  · have h0' := inB_iff.1 h0
    have hn : g.length ≤ 12 := by omega
    obtain ⟨p, hp, hp1, hp2, hp3⟩ := pow_var g.length (by omega)
    have HP := Lib.hid hp; clear hp
    have e0 : min g.length 64 = g.length := by omega
    have H0 := Lib.hid h0
    clear h0'
    go_enter Try.func63, Try.ntmps63
    go_wp2_with (go_at_call 65; refine (l6In_c _ _ _ _).mono ?_; rintro e w' ⟨rfl, rfl⟩)
    go_loopw [4] (fun i wr => ∃ k : Nat, k ≤ g.length ∧ i = .int .i64 k ∧ (∀ j, j < k → rowOk g j = true) ∧ Ext w wr) (fun i _ => g.length - (intOf i).toNat)
    case atStart => exact ⟨0, Nat.zero_le _, rfl, by simp, Ext.refl _⟩
    case round =>
      obtain ⟨k, hk, rfl, hj, hx⟩ := hrel
      have HJ := Lib.hid hj; clear hj
      have HX := Lib.hid hx; clear hx
      by_cases hlt : k < g.length
      · obtain ⟨b, o, rfl, -, -, hc⟩ := HV.out.atI hlt
        have c1 := fun u => hc _ (HX.out.trans (clip_ext wr u))
        clear hc
        cases hs : setB (getI g k) g.length
        · have hs' : inB 0 (getI g k) ((p : Int) - 1) = false := by rw [← HP.out]; exact hs
          have HS := Lib.hid hs; clear hs
          go_wp2
          refine wp_region_ext (by kernel_rfl) (by kernel_rfl) ?_
          repeat (go_big_quiet_step ((go_at_call 65; exact Calls.clip_same (l6In_c _ _ _ _))))
          refine wpQuiet_nil ?_
          rintro _ ⟨u, rfl⟩
          go_wp2
          go_ret
          exact ⟨ret_bool (graphIn_row hlt (by unfold rowOk; rw [HS.out]; rfl)).symm, HX.out.trans (clip_ext _ _)⟩
        · have hs' : inB 0 (getI g k) ((p : Int) - 1) = true := by rw [← HP.out]; exact hs
          obtain ⟨hr1, hr2⟩ := row_of_set hs
          have hr3 : gN g k < 2 ^ 62 := Nat.lt_of_lt_of_le hr2 (Nat.pow_le_pow_right (by omega) (by omega))
          have HS := Lib.hid hs; clear hs
          rw [hr1] at hs' c1
          clear hr1 hr2
          cases hb : (gN g k).testBit k
          · go_wp2
            refine wp_region_ext (by kernel_rfl) (by kernel_rfl) ?_
            repeat (go_big_quiet_step (first | (go_at_call 65; exact Calls.clip_same (l6In_c _ _ _ _)) | (go_at_call 48; exact Calls.clip_same (l1Bit_c _ _ hr3 (by omega) _))))
            refine wpQuiet_nil ?_
            rintro _ ⟨u, rfl⟩
            go_wp2
            go_roundw
            case rel => exact ⟨k + 1, by omega, by go_num, fun j hj => by
              by_cases h : j = k
              · subst h; unfold rowOk; rw [HS.out, hb]; rfl
              · exact HJ.out j (by omega), HX.out.trans (clip_ext _ _)⟩
            case measure => simp [intOf]; omega
          · go_wp2
            refine wp_region_ext (by kernel_rfl) (by kernel_rfl) ?_
            repeat (go_big_quiet_step (first | (go_at_call 65; exact Calls.clip_same (l6In_c _ _ _ _)) | (go_at_call 48; exact Calls.clip_same (l1Bit_c _ _ hr3 (by omega) _))))
            refine wpQuiet_nil ?_
            rintro _ ⟨u, rfl⟩
            go_wp2
            go_ret
            exact ⟨ret_bool (graphIn_row hlt (by unfold rowOk; rw [HS.out, hb]; rfl)).symm, HX.out.trans (clip_ext _ _)⟩
      · go_wp2
        obtain rfl : k = g.length := by omega
        have HR : Hid (∀ i, i < g.length → getI g i = (gN g i : Int) ∧ gN g i < 2 ^ 62) := fun i hi => by
          have := HJ.out i hi
          unfold rowOk at this
          simp only [Bool.and_eq_true] at this
          obtain ⟨h1, h2⟩ := row_of_set this.1
          exact ⟨h1, Nat.lt_of_lt_of_le h2 (Nat.pow_le_pow_right (by omega) (by omega))⟩
        go_loopw [5, 6] (fun i q wr => ∃ k : Nat, k ≤ g.length ∧ i = .int .i64 k ∧ (∀ j, j < k → ∀ m, m < g.length → (gN g j).testBit m = (gN g m).testBit j) ∧ Ext w wr) (fun i _ _ => g.length - (intOf i).toNat)
        case atStart => exact ⟨0, Nat.zero_le _, rfl, by simp, HX.out⟩
        case round =>
          obtain ⟨k, hk, rfl, hj, hx⟩ := hrel
          have HJ2 := Lib.hid hj; clear hj
          have HX2 := Lib.hid hx; clear hx HX
          by_cases hlt : k < g.length
          · go_wp2
            obtain ⟨wo, rfl⟩ : ∃ wo : World, wo = wr := ⟨_, rfl⟩
            go_loopw [6] (fun q wr => ∃ m : Nat, m ≤ g.length ∧ q = .int .i64 m ∧ (∀ j, j < m → (gN g k).testBit j = (gN g j).testBit k) ∧ Ext w wr) (fun q _ => g.length - (intOf q).toNat)
            case atStart => exact ⟨0, Nat.zero_le _, rfl, by simp, HX2.out⟩
            case round =>
              obtain ⟨m, hm', rfl, hj, hx⟩ := hrel
              have HJ3 := Lib.hid hj; clear hj
              have HX3 := Lib.hid hx; clear hx HX2
              by_cases hlm : m < g.length
              · obtain ⟨b, o, rfl, -, -, hc⟩ := HV.out.atI hlt
                have c1 := fun u => hc _ (HX3.out.trans (clip_ext wr u))
                clear hc
                obtain ⟨b', o', he, -, -, hc⟩ := HV.out.atI hlm
                obtain ⟨rfl, rfl⟩ : b = b' ∧ o = o' := by simpa using he
                have c2 := fun u => hc _ (HX3.out.trans (clip_ext wr u))
                clear hc he
                obtain ⟨r1, r2⟩ := HR.out k hlt
                obtain ⟨r3, r4⟩ := HR.out m hlm
                rw [r1] at c1; rw [r3] at c2
                clear r1 r3
                have q1 : ((gN g k).testBit m).toNat ≤ 1 := by cases (gN g k).testBit m <;> decide
                obtain ⟨x, hx⟩ : ∃ x, x = (gN g k).testBit m := ⟨_, rfl⟩
                obtain ⟨y, hy⟩ : ∃ y, y = (gN g m).testBit k := ⟨_, rfl⟩
                have L1 := l1Bit_c (gN g k) m r2 (by omega)
                have L2 := l1Bit_c (gN g m) k r4 (by omega)
                rw [← hx] at L1; rw [← hy] at L2
                have HL1 := Lib.hid L1; have HL2 := Lib.hid L2
                have HXX := Lib.hid hx; have HYY := Lib.hid hy
                clear L1 L2 hx hy q1
                by_cases he : x = y
                · subst he
                  go_wp2
                  refine wp_region_ext (by kernel_rfl) (by kernel_rfl) ?_
                  repeat (go_big_quiet_step (first | (go_at_call 48; with_reducible exact Calls.clip_same (HL1.out _)) | (go_at_call 48; with_reducible exact Calls.clip_same (HL2.out _))))
                  refine wpQuiet_nil ?_
                  rintro _ ⟨u, rfl⟩
                  go_wp2
                  go_roundw
                  case rel => exact ⟨m + 1, by omega, by go_num, fun j hj => by
                    by_cases h : j = m
                    · subst h; rw [← HXX.out, ← HYY.out]
                    · exact HJ3.out j (by omega), HX3.out.trans (clip_ext _ _)⟩
                  case measure => simp [intOf]; omega
                · have hne : (((x.toNat : Nat) : Int) != ((y.toNat : Nat) : Int)) = true := by cases x <;> cases y <;> first | rfl | exact absurd rfl he
                  have hne' : x.toNat ≠ y.toNat := by cases x <;> cases y <;> first | decide | exact absurd rfl he
                  have HE := Lib.hid he; clear he
                  go_wp2
                  refine wp_region_ext (by kernel_rfl) (by kernel_rfl) ?_
                  repeat (go_big_quiet_step (first | (go_at_call 48; with_reducible exact Calls.clip_same (HL1.out _)) | (go_at_call 48; with_reducible exact Calls.clip_same (HL2.out _))))
                  refine wpQuiet_nil ?_
                  rintro _ ⟨u, rfl⟩
                  go_wp2
                  go_ret
                  exact ⟨ret_bool (graphIn_sym (i := k) (k := m) (by rw [← HXX.out, ← HYY.out]; exact HE.out)).symm, HX3.out.trans (clip_ext _ _)⟩
              · obtain rfl : m = g.length := by omega
                go_wp2
                go_roundw
                case rel => exact ⟨k + 1, by omega, by go_num, fun j hj m hm => by
                  by_cases h : j = k
                  · subst h; exact HJ3.out m hm
                  · exact HJ2.out j (by omega) m hm, HX3.out⟩
                case measure => simp [intOf]; omega
          · obtain rfl : k = g.length := by omega
            go_wp2
            go_ret
            exact ⟨ret_bool (graphIn_of H0.out HJ.out HJ2.out).symm, HX2.out⟩
end Go.Proofs.Ytpmammklklkheaa

/- Which lists are graphs: the program agrees with the plain function. The condition: the list has at most 2^20 numbers. -/
namespace Go.Proofs.Ytpmammklklkheaa
open Go.RowKit
open BigFrame
attribute [local go_sem] Oper.semAt_some

/-- A result that lies in a variable of its own. -/
theorem results_cell {fn : Func} {p : Tmp} {b : Nat} {x : Bool} (h : fn.results = #[.cell p 4]) (tmps : Array Value) (W : World)
    (hp : tmps.getD p undef = .pointer (some ⟨b, 0, none⟩)) (hc : W.cell? ⟨b, 0, none⟩ = some (.bool x)) : (results fn tmps).run Try.prog W = .ok (.bool x) W := by
  have hp' : tmps[p]?.getD undef = .pointer (some ⟨b, 0, none⟩) := by simpa using hp
  simp only [results, h]
  simp [go_sem, hp', hc]
theorem results_cell_int {fn : Func} {p : Tmp} {b : Nat} {x : Int} (h : fn.results = #[.cell p 3]) (tmps : Array Value) (W : World)
    (hp : tmps.getD p undef = .pointer (some ⟨b, 0, none⟩)) (hc : W.cell? ⟨b, 0, none⟩ = some (.int .i64 x)) : (results fn tmps).run Try.prog W = .ok (.int .i64 x) W := by
  have hp' : tmps[p]?.getD undef = .pointer (some ⟨b, 0, none⟩) := by simpa using hp
  simp only [results, h]
  simp [go_sem, hp', hc]
/-- The way out where the result is a bool in a variable of its own. -/
theorem leave_bool {fn : Func} {p : Tmp} {b : Nat} {x y : Bool} {w W : World} {tmps : Array Value} {ds : List Deferred} (hr : fn.results = #[.cell p 4])
    (hp : tmps.getD p undef = .pointer (some ⟨b, 0, none⟩)) (hc : W.cell? ⟨b, 0, none⟩ = some (.bool x)) (hm : Marks w.heap.size W ds) (hx : Ext w W) (hxy : x = y) :
    LeavesInM Fence.wide 0 Try.prog fn tmps (fun e w' => e = .returned (.bool y) ∧ Ext w w') ds .returning W :=
  leaves_marks (B := w.heap.size) (.bool x) _ _ hm fun _ hW' => ⟨results_cell hr _ _ hp (hW'.cell hc), ret_bool hxy, hx.book (Nat.le_refl _) hW'⟩
theorem cell_set {W : World} {b : Nat} {u v : Value} (h : W.cell? ⟨b, 0, none⟩ = some u) : (W.setCell ⟨b, 0, none⟩ v).cell? ⟨b, 0, none⟩ = some v :=
  World.cell?_setCell_same' _ _ _ (by rw [h]; rfl)

set_option maxRecDepth 100000 in
set_option maxHeartbeats 1000000 in
theorem graphInI_c (v : Value) (g : List Int) (w : World) (hv : Rd w v g) (hm : g.length ≤ 1048576) :
    Calls Try.prog 74 #[v] w fun e w' => e = .returned (.bool (graphIn g)) ∧ Ext w w' := by
  obtain ⟨a, c, rfl⟩ := hv.form
  have HV := Lib.hid hv; clear hv
  refine calls_marks Try.func74 rfl ?_
  simp only [Try.ntmps74, List.size_toArray, List.length_cons, List.length_nil, Nat.reduceAdd, Nat.reduceSub, Array.replicate_succ, Array.replicate_zero, List.push_toArray, List.append_toArray, List.nil_append, List.cons_append]
  cases h0 : inB 1 g.length 12
  · go_wp2_with (go_at_call 100; refine (in_c _ _ _ _).mono ?_; rintro e w' ⟨rfl, rfl⟩)
    obtain ⟨W, hW, hx, hsz, c0, c1, f0, f1⟩ := two_new w (.slice a g.length c) (.bool false) 23 4
    rw [← hW]
    exact leave_bool rfl rfl c1 (Marks.nil _ _) hx (graphIn_len h0).symm
  · obtain ⟨W, hW, hx, hsz, c0, c1, f0, f1⟩ := two_new w (.slice a g.length c) (.bool false) 23 4
    have h0' := inB_iff.1 h0
    have hn : g.length ≤ 12 := by omega
    have H0 := Lib.hid h0
    clear h0'
    go_wp2_with (go_at_call 100; refine (in_c _ _ _ _).mono ?_; rintro e w' ⟨rfl, rfl⟩)
    rw [← hW]
    have HW := Lib.hid hW; clear hW
    -- the variables of the call's own
    have hVW : Hid (Rd W (.slice a g.length c) g) := HV.out.ext hx
    have HX0 := Lib.hid hx; clear hx
    have hs0 : Hid (W.heap.size = w.heap.size + 2) := hsz; clear hsz
    obtain ⟨B0, hB0⟩ : ∃ b, b = w.heap.size := ⟨_, rfl⟩
    rw [← hB0] at c0 c1 f0 f1 ⊢
    have HB0 := Lib.hid hB0; clear hB0
    have HC0 := Lib.hid (And.intro c0 (And.intro c1 (And.intro f0 f1))); clear c0 c1 f0 f1
    go_loopw [3, 4, 14] (fun _ _ i wr => ∃ k : Nat, k ≤ g.length ∧ i = .int .i64 k ∧ (∀ j, j < k → rowOk g j = true) ∧ Ext W wr) (fun _ _ i _ => g.length - (intOf i).toNat)
    case atStart => exact ⟨0, Nat.zero_le _, rfl, by simp, Ext.refl _⟩
    case round =>
      obtain ⟨k, hk, rfl, hj, hx⟩ := hrel
      have HJ := Lib.hid hj; clear hj
      have HX := Lib.hid hx; clear hx
      obtain ⟨c0, c1, f0, f1⟩ := HC0.out
      have hlt0 : B0 + 1 < W.heap.size := by have := hs0.out; have := HB0.out; omega
      rw [← HX.out.cell (by omega)] at c0 c1
      rw [← HX.out.frozen (by omega)] at f0 f1
      by_cases hlt : k < g.length
      · obtain ⟨b, o, rfl, -, -, hc⟩ := hVW.out.atI hlt
        replace hc := hc _ HX.out
        cases hs : setB (getI g k) g.length
        · have HS := hs
          go_wp2_with (first | (go_at_call 76; refine (isSet_c _ _ (by omega) _).mono ?_; rintro e w' ⟨rfl, rfl⟩))
          exact leave_bool rfl rfl (cell_set c1) (Marks.nil _ _) ((HX0.out.trans HX.out).setCell (by have := HB0.out; simp; omega) _) (graphIn_row hlt (by unfold rowOk; rw [HS]; rfl)).symm
        · obtain ⟨hr1, hr2⟩ := row_of_set hs
          have hr3 : gN g k < 2 ^ 62 := Nat.lt_of_lt_of_le hr2 (Nat.pow_le_pow_right (by omega) (by omega))
          have HS := Lib.hid hs
          rw [hr1] at hs hc
          have HR1 := Lib.hid hr1
          clear hr1 hr2
          cases hb : (gN g k).testBit k
          · have HB := Lib.hid hb
            go_wp2_with (first | (go_at_call 76; refine (isSet_c _ _ (by omega) _).mono ?_; rintro e w' ⟨rfl, rfl⟩) | (go_at_call 110; refine (has_c _ _ hr3 (by omega) _).mono ?_; rintro e w' ⟨rfl, rfl⟩))
            go_roundw
            case rel => exact ⟨k + 1, by omega, by go_num, fun j hj => by
              by_cases h : j = k
              · subst h; unfold rowOk; rw [HS.out, HB.out]; rfl
              · exact HJ.out j (by omega), HX.out⟩
            case measure => simp [intOf]; omega
          · have HB := Lib.hid hb
            go_wp2_with (first | (go_at_call 76; refine (isSet_c _ _ (by omega) _).mono ?_; rintro e w' ⟨rfl, rfl⟩) | (go_at_call 110; refine (has_c _ _ hr3 (by omega) _).mono ?_; rintro e w' ⟨rfl, rfl⟩))
            exact leave_bool rfl rfl (cell_set c1) (Marks.nil _ _) ((HX0.out.trans HX.out).setCell (by have := HB0.out; simp; omega) _) (graphIn_row hlt (by unfold rowOk; rw [HS.out, HB.out]; rfl)).symm
      · obtain rfl : k = g.length := by omega
        have HR : Hid (∀ i, i < g.length → getI g i = (gN g i : Int) ∧ gN g i < 2 ^ g.length) := fun i hi => by
          have := HJ.out i hi
          unfold rowOk at this
          simp only [Bool.and_eq_true] at this
          exact row_of_set this.1
        go_wp2
        -- the second loop: each neighbour of each node
        refine wp_loop_marks [5, 6, 7, 32, 33, 34, 35, 36, 37, 38, 39, 40, 41, 42, 43, 44, 45, 46, 47]
          (fun u ds wr => ∃ k : Nat, k ≤ g.length ∧ u 32 = .int .i64 k ∧ (∀ j, j < k → ∀ m, m < g.length → (gN g j).testBit m = true → (gN g m).testBit j = true) ∧ Ext W wr ∧ Marks w.heap.size wr ds)
          (fun u _ => g.length - (intOf (u 32)).toNat) ⟨0, Nat.zero_le _, rfl, by simp, HX.out, Marks.nil _ _⟩ ?_
        rintro u ds w2 ⟨k, hk, hu, hj, hx, hm⟩ K HK
        simp only [fillFrom, List.contains_cons, List.contains_nil, Nat.reduceBEq, Nat.reduceAdd, Bool.or_false, Bool.or_true, if_true, if_false, Bool.false_eq_true, hu] at ⊢
        have HU := Lib.hid hu; clear hu c0 c1 f0 f1
        have HM := Lib.hid hm; clear hm
        have HJ2 := Lib.hid hj; clear hj
        have HX2 := Lib.hid hx; clear hx HX
        obtain ⟨c0, c1, f0, f1⟩ := HC0.out
        rw [← HX2.out.cell (by omega)] at c0 c1
        rw [← HX2.out.frozen (by omega)] at f0 f1
        by_cases hlt : k < g.length
        · obtain ⟨b, o, rfl, -, hbW, hc⟩ := hVW.out.atI hlt
          replace hc := hc _ HX2.out
          obtain ⟨r1, r2⟩ := HR.out k hlt
          rw [r1] at hc
          have R2 := Lib.hid r2
          clear r1 r2
          obtain ⟨W2, hW2, hx2, hsz2, d0, d1, e0, e1⟩ := two_new w2 (.int .i64 k) (.int .i64 (gN g k)) 3 3
          go_wp2_with (first | (go_at_call 79; refine (nodes_c _ _).mono ?_; rintro e w' ⟨rfl, rfl⟩))
          rw [← hW2]
          refine wp_range (nodes_iter (w2.heap.size + 1) (gN g k) g.length R2.out (by omega)) rfl nodes_enters rfl
            (fun j W' => (∀ m, m < j → (gN g k).testBit m = true → (gN g m).testBit k = true) ∧ Ext W2 W' ∧ Marks w.heap.size W' ds)
            (fun c W' => c = .ret ∧ (∃ m, (gN g k).testBit m = true ∧ (gN g m).testBit k = false) ∧ Ext w W' ∧ Marks w.heap.size W' ds ∧ W'.cell? ⟨B0 + 1, 0, none⟩ = some (.bool false))
            ?hI ?hIx ?hKi ?h0 ?hskip ?hround ?hdone ?hstop
          case hI =>
            rintro j W' W'' hB ⟨h1, h2, h3⟩
            exact ⟨h1, h2.book (Nat.le_refl _) hB, h3.book hB (fun k hk => by have := HM.out.lt k hk; omega)⟩
          case hIx =>
            rintro cc W' W'' hB ⟨h1, h2, h3, h4, h5⟩
            exact ⟨h1, h2, h3.book (by have := hx2.size; have := HX2.out.size; have := hs0.out; omega) hB, h4.book hB (fun k hk => by have := HM.out.lt k hk; omega), hB.cell h5⟩
          case hKi =>
            rintro j W' ⟨_, h2, _⟩
            exact (h2.cell (by omega)).trans d1
          case h0 => exact ⟨by simp, Ext.refl _, HM.out.ext hx2⟩
          case hskip =>
            rintro j W' hj hp ⟨h1, h2, h3⟩
            exact ⟨fun m hm hb => by
              by_cases h : m = j
              · subst h; rw [hp] at hb; cases hb
              · exact h1 m (by omega) hb, h2, h3⟩
          case hround =>
            rintro l j W' hj hp ⟨h1, h2, h3⟩ hsz
            have H1 := Lib.hid h1; have H2 := Lib.hid h2; have H3 := Lib.hid h3; clear h1 h2 h3
            gi_wp2
            refine ⟨KeepsFrom.refl _ _, fun W'' hB => ?_⟩
            have hE : Hid (Ext W2 W'') := H2.out.book (Nat.le_refl _) hB
            have hM3 : Hid (Marks w.heap.size W'' ds) := H3.out.book hB (fun k hk => by have := HM.out.lt k hk; omega)
            clear hB H2 H3
            have E2 : Hid (Ext W W'') := (HX2.out.trans hx2).trans hE.out
            obtain ⟨r1, r2⟩ := HR.out j hj
            have r3 : gN g j < 2 ^ 62 := Nat.lt_of_lt_of_le r2 (Nat.pow_le_pow_right (by omega) (by omega))
            have k1 : ∀ u, (clip W'' u).cell? ⟨B0, 0, none⟩ = some (.slice (some ⟨b, o, none⟩) g.length c) := fun u => ((E2.out.trans (clip_ext W'' u)).cell (by omega)).trans HC0.out.1
            have k2 : ∀ u, (clip W'' u).cell? ⟨w2.heap.size, 0, none⟩ = some (.int .i64 k) := fun u => ((hE.out.trans (clip_ext W'' u)).cell (by omega)).trans d0
            have k3 : ∀ u, (clip W'' u).cell? ⟨b, o + j, none⟩ = some (.int .i64 (gN g j)) := fun u => by
              obtain ⟨b', o', he, -, -, hc⟩ := hVW.out.atI hj
              obtain ⟨rfl, rfl⟩ : b = b' ∧ o = o' := by simpa using he
              rw [← r1]; exact hc _ (E2.out.trans (clip_ext W'' u))
            clear r1 r2
            have HL := Lib.hid (has_c (gN g j) k r3 (by omega))
            clear c0 c1 f0 f1 d0 d1 e0 e1 hc
            cases hb : (gN g j).testBit k
            · have HB := Lib.hid hb
              gi_wp2
              refine wpIn_quiet (ro := some l) (C := fun w' => ∃ u, w' = clip W'' u) (by kernel_rfl) (by kernel_rfl) (by kernel_rfl) ⟨_, (clip_of (Ext.refl W'').drew).symm⟩ ?_
              repeat (go_big_quiet_step ((go_at_call 110; exact Calls.clip_same (HL.out _))))
              refine wpQuiet_nil ?_
              rintro _ ⟨u', rfl⟩
              have q1 : (clip W'' u').cell? ⟨B0 + 1, 0, none⟩ = some (.bool false) := ((E2.out.trans (clip_ext W'' u')).cell (by omega)).trans HC0.out.2.1
              have q2 : (clip W'' u').frozen? ⟨B0 + 1, 0, none⟩ = false := ((E2.out.trans (clip_ext W'' u')).frozen (by omega)).trans HC0.out.2.2.2
              gi_wp2
              exact ⟨(KeepsFrom.of_ext (clip_ext W'' u')).trans (KeepsFrom.setCell' _ _ _ _), rfl, ⟨j, hp, HB.out⟩, ((HX0.out.trans E2.out).trans (clip_ext W'' u')).setCell (by have := HB0.out; simp; omega) _, (hM3.out.ext (clip_ext W'' u')).setCell _ _, cell_set q1⟩
            · have HB := Lib.hid hb
              gi_wp2
              refine wpIn_quiet (ro := some l) (C := fun w' => ∃ u, w' = clip W'' u) (by kernel_rfl) (by kernel_rfl) (by kernel_rfl) ⟨_, (clip_of (Ext.refl W'').drew).symm⟩ ?_
              repeat (go_big_quiet_step ((go_at_call 110; exact Calls.clip_same (HL.out _))))
              refine wpQuiet_nil ?_
              rintro _ ⟨u', rfl⟩
              gi_wp2
              exact ⟨KeepsFrom.of_ext (clip_ext W'' u'), fun m hm hb => by
                by_cases h : m = j
                · subst h; exact HB.out
                · exact H1.out m (by omega) hb, hE.out.trans (clip_ext W'' u'), hM3.out.ext (clip_ext W'' u')⟩
          case hdone =>
            rintro D W' hD ⟨h1, h2, h3⟩ hDD
            have H1 := Lib.hid h1; have H2 := Lib.hid h2; have H3 := Lib.hid h3; have HD := Lib.hid hDD; clear h1 h2 h3 hDD
            go_wp2
            refine HK.out _ _ _ rfl ⟨k + 1, by omega, by go_num, fun i hi m hm hb => ?_, (HX2.out.trans hx2).trans H2.out, H3.out.cons (n := W2.heap.size) (fun k hk => by have := HM.out.lt k hk; omega) hD (by have := hx2.size; have := HX2.out.size; have := hs0.out; omega) HD.out⟩ (by simp [intOf, HU.out]; omega)
            by_cases h : i = k
            · subst h; exact H1.out m hm hb
            · exact HJ2.out i (by omega) m hm hb
          case hstop =>
            rintro D cc W' hD ⟨rfl, ⟨m, hm1, hm2⟩, h3, h4, h5⟩ hDD
            go_wp2
            exact leave_bool rfl rfl h5 (h4.cons (n := W2.heap.size) (fun k hk => by have := HM.out.lt k hk; omega) hD (by have := hx2.size; have := HX2.out.size; have := hs0.out; omega) hDD) h3 (graphIn_sym (i := k) (k := m) (by rw [hm1, hm2]; decide)).symm
        · obtain rfl : k = g.length := by omega
          go_wp2
          exact leave_bool rfl rfl (cell_set c1) (HM.out.setCell _ _) ((HX0.out.trans HX2.out).setCell (by have := HB0.out; simp; omega) _) (graphIn_of H0.out HJ.out fun i hi k hk => by
            cases h1 : (gN g i).testBit k <;> cases h2 : (gN g k).testBit i
            · rfl
            · exact absurd (HJ2.out k hk i hi h2) (by rw [h1]; decide)
            · exact absurd (HJ2.out i hi k hk h1) (by rw [h2]; decide)
            · rfl).symm
end Go.Proofs.Ytpmammklklkheaa

/- Pools of tests: PoolIn, PoolAnswers, PoolLeft, SensorApart: the reference and the program compute the same plain functions. The condition: the list has at most 2^20 numbers. -/
namespace Go.Proofs.Ytpmammklklkheaa
open Go.RowKit
open BigFrame

theorem all_false {xs : List Int} {p : Int → Bool} {k : Nat} (hk : k < xs.length) (h : p (getI xs k) = false) : xs.all p = false := by
  rw [List.all_eq_false]
  refine ⟨xs[k], List.getElem_mem hk, ?_⟩
  have : getI xs k = xs[k] := by simp [getI, hk]
  rw [← this, h]; decide
theorem all_true {xs : List Int} {p : Int → Bool} (h : ∀ k, k < xs.length → p (getI xs k) = true) : xs.all p = true := by
  rw [List.all_eq_true]
  intro x hx
  obtain ⟨i, hi, rfl⟩ := List.getElem_of_mem hx
  have : getI xs i = xs[i] := by simp [getI, hi]
  rw [← this]; exact h i hi
theorem poolIn_len {items : Int} {tests : List Int} (h : inB 1 items 12 = false) : poolIn items tests = false := by simp [poolIn, h]
theorem poolIn_many {items : Int} {tests : List Int} (h : ¬ tests.length ≤ 16) : poolIn items tests = false := by simp [poolIn, h]

theorem poolIn1_enters : ∀ args w, (callFunc 113 args).run Try.prog w = .ok (.enter 113 args) w :=
  Go.Proofs.enters_of Try.func113 (by kernel_rfl) rfl
theorem poolIn1_c (s : Int) (n b : Nat) (hn : n ≤ 62) (w : World) (hc : w.cell? ⟨b, 0, none⟩ = some (.int .i64 n)) :
    Calls Try.prog 113 #[.int .i64 s, .pointer (some ⟨b, 0, none⟩)] w fun e w' => e = .returned (.bool (!setB s n)) ∧ Ext w w' := by
  go_enter Try.func113, Try.ntmps113
  go_wp2_with (go_at_call 76; refine (isSet_c _ _ hn _).mono ?_; rintro e w' ⟨rfl, rfl⟩)
  go_ret
  exact ⟨rfl, Ext.refl _⟩
theorem not_any_not (xs : List Int) (n : Nat) : (!xs.any fun s => !setB s n) = xs.all fun s => setB s n := by
  induction xs with
  | nil => rfl
  | cons x r ih => simp [← ih]

set_option maxHeartbeats 1000000 in
theorem poolInI_c (items : Int) (v : Value) (xs : List Int) (w : World) (hv : Rd w v xs) (hm : xs.length ≤ 1048576) :
    Calls Try.prog 82 #[.int .i64 items, v] w fun e w' => e = .returned (.bool (poolIn items xs)) ∧ Ext w w' := by
  obtain ⟨a, c, rfl⟩ := hv.form
  have HV := Lib.hid hv; clear hv
  cases h0 : inB 1 items 12
  · go_enter Try.func82, Try.ntmps82
    go_wp2_with (go_at_call 100; refine (in_c _ _ _ _).mono ?_; rintro e w' ⟨rfl, rfl⟩)
    go_ret
    exact ⟨ret_bool (poolIn_len h0).symm, (Ext.refl w).alloc _⟩
  · obtain ⟨n, rfl⟩ : ∃ n : Nat, items = n := ⟨items.toNat, by have := inB_iff.1 h0; omega⟩
    have hn : n ≤ 12 := by have := inB_iff.1 h0; omega
    by_cases h1 : xs.length ≤ 16
    · obtain ⟨W, hW, hx, hsz, c0, f0⟩ := one_new w (.int .i64 n) 3
      have HF := Lib.hid (containsFunc_c (.slice a xs.length c) xs 113 #[.pointer (some ⟨w.heap.size, 0, none⟩)] (fun s => !setB s n) W (HV.out.ext hx) hm poolIn1_enters
        (fun x _ w' hx' => poolIn1_c x n w.heap.size (by omega) w' ((hx'.cell (by omega)).trans c0)))
      have HW := Lib.hid hW; have HX := Lib.hid hx; clear hW hx hsz c0 f0
      have hmf : ∀ (fn : Fn) (first cap : Array Value) (w : World), (Instr.makeFunc fn first cap).run Try.prog w = .ok (.func fn first cap) w := fun _ _ _ _ => rfl
      go_enter Try.func82, Try.ntmps82
      go_wp2_with (first | (go_at_call 100; refine (in_c _ _ _ _).mono ?_; rintro e w' ⟨rfl, rfl⟩) | (go_at_call 112; rw [← HW.out]; refine HF.out.mono ?_; rintro e w' ⟨rfl, hx'⟩))
      go_ret
      refine ⟨ret_bool ?_, HX.out.trans (by assumption)⟩
      unfold poolIn
      rw [h0, ← not_any_not]
      simp [h1]
    · go_enter Try.func82, Try.ntmps82
      go_wp2_with (go_at_call 100; refine (in_c _ _ _ _).mono ?_; rintro e w' ⟨rfl, rfl⟩)
      go_ret
      exact ⟨ret_bool (poolIn_many h1).symm, (Ext.refl w).alloc _⟩
end Go.Proofs.Ytpmammklklkheaa

/- Answers of pools, what is left, how far apart two sets are: the reference and the program compute the same plain functions. The condition: the list has at most 2^20 numbers. -/
namespace Go.Proofs.Ytpmammklklkheaa
open Go.RowKit
open BigFrame

/-- What a function that returns a number and whether it holds returns. -/
def pairV (p : Int × Bool) : Value := .tuple #[.int .i64 p.1, .bool p.2]
theorem ret_pair {p q : Int × Bool} (h : p = q) : Ending.returned (pairV p) = .returned (pairV q) := by rw [h]
theorem ret_pair' {a : Int} {b : Bool} {q : Int × Bool} (h : (a, b) = q) : Ending.returned (.tuple #[.int .i64 a, .bool b]) = .returned (pairV q) := by rw [← h]; rfl

def poolAnswers (items : Int) (tests : List Int) (wrong : Int) : Int × Bool :=
  if poolIn items tests && setB wrong items.toNat then ((answersOf tests wrong.toNat : Nat), true) else (0, false)
def poolLeft (items : Int) (tests : List Int) (answers : Int) : Int × Bool :=
  if poolIn items tests && setB answers tests.length then ((leftOf items.toNat tests answers.toNat : Nat), true) else (0, false)
def apart (a b : Int) : Int := if setB a 12 && setB b 12 then (cnt (bxor a.toNat b.toNat) : Nat) else -1

theorem answersTo_small {tests : List Int} {wrong k : Nat} (h : k ≤ 16) : answersTo tests wrong k ≤ 65535 := by
  have := answersTo_lt tests wrong k
  have := pow_le_16 h
  omega
theorem leftTo_small {n : Nat} {tests : List Int} {answers k : Nat} (h : n ≤ 12) : leftTo n tests answers k ≤ 4095 := by
  have := leftTo_lt n tests answers k
  have := pow_le_12 h
  omega
theorem IsPool.small {n : Nat} {tests : List Int} (h : IsPool n tests) (i : Nat) : gN tests i ≤ 4095 := by
  have := h.lt i
  have := pow_le_12 h.le
  omega

set_option maxHeartbeats 400000 in
theorem sensorApartI_c (a b : Int) (w : World) :
    Calls Try.prog 37 #[.int .i64 a, .int .i64 b] w fun e w' => e = .returned (.int .i64 (apart a b)) ∧ w = w' := by
  cases ha : setB a 12
  · have HA := Lib.hid ha
    go_enter Try.func37, Try.ntmps37
    go_wp2_with (go_at_call 76; refine (isSet_c _ 12 (by omega) _).mono ?_; rintro e w' ⟨rfl, rfl⟩)
    go_ret
    exact ⟨ret_int (by unfold apart; rw [HA.out]; rfl), rfl⟩
  · cases hb : setB b 12
    · have HB := Lib.hid hb
      go_enter Try.func37, Try.ntmps37
      go_wp2_with (go_at_call 76; refine (isSet_c _ 12 (by omega) _).mono ?_; rintro e w' ⟨rfl, rfl⟩)
      go_ret
      exact ⟨ret_int (by unfold apart; rw [HB.out, Bool.and_false]; rfl), rfl⟩
    · have HA := Lib.hid ha; have HB := Lib.hid hb
      obtain ⟨x, rfl, hx⟩ := setB_iff.1 ha
      obtain ⟨y, rfl, hy⟩ := setB_iff.1 hb
      have hz := bxor_lt hx hy
      have e1 := bits_xor x y (by omega) (by omega)
      have HS := Lib.hid (pop64_small (bxor x y) (by omega))
      go_enter Try.func37, Try.ntmps37
      go_wp2_with (first | (go_at_call 76; refine (isSet_c _ 12 (by omega) _).mono ?_; rintro e w' ⟨rfl, rfl⟩) | (go_at_call 57; refine (size_c _ (by omega) _).mono ?_; rintro e w' ⟨rfl, rfl⟩))
      go_ret
      exact ⟨ret_int (by unfold apart; rw [HA.out, HB.out, HS.out]; rfl), rfl⟩

set_option maxHeartbeats 400000 in
theorem answers_c (n : Nat) (it : Int) (v : Value) (xs : List Int) (m : Nat) (w : World) (hv : Rd w v xs) (hp : IsPool n xs) (hm : m ≤ 4095) :
    Calls Try.prog 85 #[.agg #[.int .i64 it, v], .int .i64 m] w fun e w' => e = .returned (.int .i64 (answersOf xs m : Nat)) ∧ Ext w w' := by
  obtain ⟨a, c, rfl⟩ := hv.form
  have HV := Lib.hid hv; clear hv
  have HP := Lib.hid hp
  have hl := hp.len
  clear hp
  go_enter Try.func85, Try.ntmps85
  go_wp2
  go_loop [5, 11] (fun o i => ∃ k : Nat, k ≤ xs.length ∧ i = .int .i64 k ∧ o = .int .i64 (answersTo xs m k : Nat)) (fun _ i => xs.length - (intOf i).toNat)
  case atStart => exact ⟨0, Nat.zero_le _, rfl, rfl⟩
  case round =>
    obtain ⟨k, hk, rfl, rfl⟩ := hrel
    have h1 : answersTo xs m k ≤ 65535 := answersTo_small (by omega)
    have H2 : Hid (answersTo xs m (k + 1) = if band (gN xs k) m ≠ 0 then bor (answersTo xs m k) (2 ^ k) else answersTo xs m k) := rfl
    generalize hq : answersTo xs m k = q at *
    have H3 := Lib.hid hq; clear hq
    by_cases hlt : k < xs.length
    · obtain ⟨b, o, rfl, -, -, hc⟩ := HV.out.atI hlt
      have c1 := hc _ ((Ext.refl w).alloc (Obj.cells #[Value.int IntKind.i64 it, Value.slice (some ⟨b, o, none⟩) xs.length c] 67))
      clear hc
      have r1 := HP.out.row k hlt
      have r2 := HP.out.small k
      rw [r1] at c1
      clear r1
      have e1 := bits_and (gN xs k) m (by omega) (by omega)
      obtain ⟨p, hp, hp1, hp2, hp3⟩ := pow_var k (by omega)
      have e0 : min k 64 = k := by omega
      have e2 := bits_or q p (by omega) (by omega)
      have H4 := Lib.hid hp; clear hp
      by_cases hz : band (gN xs k) m = 0
      · have HZ := Lib.hid hz
        go_wp2
        go_round
        case rel => exact ⟨k + 1, by omega, by go_num, by rw [H2.out, if_neg (by simpa using HZ.out)]⟩
        case measure => simp [intOf]; omega
      · have HZ := Lib.hid hz
        have hz' : ((band (gN xs k) m : Nat) : Int) ≠ 0 := by omega
        go_wp2
        go_round
        case rel => exact ⟨k + 1, by omega, by go_num, by rw [H2.out, if_pos (by simpa using HZ.out), H4.out]⟩
        case measure => simp [intOf]; omega
    · go_wp2
      go_ret
      obtain rfl : k = xs.length := by omega
      exact ⟨by rw [← H3.out]; rfl, (Ext.refl w).alloc _⟩

end Go.Proofs.Ytpmammklklkheaa
