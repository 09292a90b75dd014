/- Which lists are graphs: the reference and the program agree with the plain function. The condition: the list has at most 2^20 numbers. -/
import Derived.Test.YtpmammklklkheaaPl
import Derived.Test.YtpmammklklkheaaA2
import Derived.Test.YtpmammklklkheaaIter
namespace Go.Proofs.Ytpmammklklkheaa
open Go.RowKit
open BigFrame

theorem Rd.atI {w : World} {a : Option Addr} {n c : Nat} {xs : List Int} (h : Rd w (.slice a n c) xs) {k : Nat} (hk : k < n) :
    ∃ b o, a = some ⟨b, o, none⟩ ∧ n = xs.length ∧ b < w.heap.size ∧ ∀ w', Ext w w' → w'.cell? ⟨b, o + k, none⟩ = some (.int .i64 (getI xs k)) := by
  obtain ⟨a', c', e, h⟩ := h
  simp only [Value.slice.injEq] at e
  obtain ⟨rfl, rfl, rfl⟩ := e
  rcases h with h | ⟨b, o, rfl, hb, hc, h⟩
  · omega
  · exact ⟨b, o, rfl, rfl, hb, fun w' hx => (hx.cell hb).trans (h k hk)⟩

theorem cell_of_heap {W : World} {b : Nat} {v : Value} {t : TypeId} (h : W.heap[b]? = some (.cells #[v] t (0, 0))) : W.cell? ⟨b, 0, none⟩ = some v ∧ W.frozen? ⟨b, 0, none⟩ = false := by
  constructor <;> simp [World.cell?, World.frozen?, h]
theorem one_new (w : World) (x : Value) (t : TypeId) : ∃ W, W = w.alloc (.cells #[x] t) ∧ Ext w W ∧ W.heap.size = w.heap.size + 1 ∧ W.cell? ⟨w.heap.size, 0, none⟩ = some x ∧ W.frozen? ⟨w.heap.size, 0, none⟩ = false :=
  ⟨_, rfl, (Ext.refl w).alloc _, by simp, cell_of_heap (World.alloc_heap_new w _)⟩
/-- Two variables that have just been laid. -/
theorem two_new (w : World) (x y : Value) (t u : TypeId) :
    ∃ W, W = (w.alloc (.cells #[x] t)).alloc (.cells #[y] u) ∧ Ext w W ∧ W.heap.size = w.heap.size + 2 ∧ W.cell? ⟨w.heap.size, 0, none⟩ = some x ∧ W.cell? ⟨w.heap.size + 1, 0, none⟩ = some y ∧ W.frozen? ⟨w.heap.size, 0, none⟩ = false ∧ W.frozen? ⟨w.heap.size + 1, 0, none⟩ = false := by
  have h1 := cell_of_heap (World.alloc_heap_new (w.alloc (.cells #[x] t)) (.cells #[y] u))
  have h2 := cell_of_heap ((Below.heap_alloc (w.alloc (.cells #[x] t)) (.cells #[y] u) w.heap.size (by simp)).trans (World.alloc_heap_new w (.cells #[x] t)))
  simp only [World.size_alloc] at h1
  exact ⟨_, rfl, ((Ext.refl w).alloc _).alloc _, by simp, h2.1, h1.1, h2.2, h1.2⟩

set_option maxHeartbeats 1000000 in
theorem graphInS_c (v : Value) (g : List Int) (w : World) (hv : Rd w v g) (hm : g.length ≤ 1048576) :
    Calls Try.prog 63 #[v] w fun e w' => e = .returned (.bool (graphIn g)) ∧ Ext w w' := by
  obtain ⟨a, c, rfl⟩ := hv.form
  have HV := Lib.hid hv; clear hv
  cases h0 : inB 1 g.length 12
  · go_enter Try.func63, Try.ntmps63
    go_wp2_with (go_at_call 65; refine (l6In_c _ _ _ _).mono ?_; rintro e w' ⟨rfl, rfl⟩)
    go_ret
    exact ⟨ret_bool (graphIn_len h0).symm, Ext.refl _⟩
  · have h0' := inB_iff.1 h0
    have hn : g.length ≤ 12 := by omega
    obtain ⟨p, hp, hp1, hp2, hp3⟩ := pow_var g.length (by omega)
    have HP := Lib.hid hp; clear hp
    have e0 : min g.length 64 = g.length := by omega
    have H0 := Lib.hid h0
    clear h0'
    go_enter Try.func63, Try.ntmps63
    go_wp2_with (go_at_call 65; refine (l6In_c _ _ _ _).mono ?_; rintro e w' ⟨rfl, rfl⟩)
    go_loopw [4] (fun i wr => ∃ k : Nat, k ≤ g.length ∧ i = .int .i64 k ∧ (∀ j, j < k → rowOk g j = true) ∧ Ext w wr) (fun i _ => g.length - (intOf i).toNat)
    case atStart => exact ⟨0, Nat.zero_le _, rfl, by simp, Ext.refl _⟩
    case round =>
      obtain ⟨k, hk, rfl, hj, hx⟩ := hrel
      have HJ := Lib.hid hj; clear hj
      have HX := Lib.hid hx; clear hx
      by_cases hlt : k < g.length
      · obtain ⟨b, o, rfl, -, -, hc⟩ := HV.out.atI hlt
        have c1 := fun u => hc _ (HX.out.trans (clip_ext wr u))
        clear hc
        cases hs : setB (getI g k) g.length
        · have hs' : inB 0 (getI g k) ((p : Int) - 1) = false := by rw [← HP.out]; exact hs
          have HS := Lib.hid hs; clear hs
          go_wp2
          refine wp_region_ext (by kernel_rfl) (by kernel_rfl) ?_
          repeat (go_big_quiet_step ((go_at_call 65; exact Calls.clip_same (l6In_c _ _ _ _))))
          refine wpQuiet_nil ?_
          rintro _ ⟨u, rfl⟩
          go_wp2
          go_ret
          exact ⟨ret_bool (graphIn_row hlt (by unfold rowOk; rw [HS.out]; rfl)).symm, HX.out.trans (clip_ext _ _)⟩
        · have hs' : inB 0 (getI g k) ((p : Int) - 1) = true := by rw [← HP.out]; exact hs
          obtain ⟨hr1, hr2⟩ := row_of_set hs
          have hr3 : gN g k < 2 ^ 62 := Nat.lt_of_lt_of_le hr2 (Nat.pow_le_pow_right (by omega) (by omega))
          have HS := Lib.hid hs; clear hs
          rw [hr1] at hs' c1
          clear hr1 hr2
          cases hb : (gN g k).testBit k
          · go_wp2
            refine wp_region_ext (by kernel_rfl) (by kernel_rfl) ?_
            repeat (go_big_quiet_step (first | (go_at_call 65; exact Calls.clip_same (l6In_c _ _ _ _)) | (go_at_call 48; exact Calls.clip_same (l1Bit_c _ _ hr3 (by omega) _))))
            refine wpQuiet_nil ?_
            rintro _ ⟨u, rfl⟩
            go_wp2
            go_roundw
            case rel => exact ⟨k + 1, by omega, by go_num, fun j hj => by
              by_cases h : j = k
              · subst h; unfold rowOk; rw [HS.out, hb]; rfl
              · exact HJ.out j (by omega), HX.out.trans (clip_ext _ _)⟩
            case measure => simp [intOf]; omega
          · go_wp2
            refine wp_region_ext (by kernel_rfl) (by kernel_rfl) ?_
            repeat (go_big_quiet_step (first | (go_at_call 65; exact Calls.clip_same (l6In_c _ _ _ _)) | (go_at_call 48; exact Calls.clip_same (l1Bit_c _ _ hr3 (by omega) _))))
            refine wpQuiet_nil ?_
            rintro _ ⟨u, rfl⟩
            go_wp2
            go_ret
            exact ⟨ret_bool (graphIn_row hlt (by unfold rowOk; rw [HS.out, hb]; rfl)).symm, HX.out.trans (clip_ext _ _)⟩
      · go_wp2
        obtain rfl : k = g.length := by omega
        have HR : Hid (∀ i, i < g.length → getI g i = (gN g i : Int) ∧ gN g i < 2 ^ 62) := fun i hi => by
          have := HJ.out i hi
          unfold rowOk at this
          simp only [Bool.and_eq_true] at this
          obtain ⟨h1, h2⟩ := row_of_set this.1
          exact ⟨h1, Nat.lt_of_lt_of_le h2 (Nat.pow_le_pow_right (by omega) (by omega))⟩
        go_loopw [5, 6] (fun i q wr => ∃ k : Nat, k ≤ g.length ∧ i = .int .i64 k ∧ (∀ j, j < k → ∀ m, m < g.length → (gN g j).testBit m = (gN g m).testBit j) ∧ Ext w wr) (fun i _ _ => g.length - (intOf i).toNat)
        case atStart => exact ⟨0, Nat.zero_le _, rfl, by simp, HX.out⟩
        case round =>
          obtain ⟨k, hk, rfl, hj, hx⟩ := hrel
          have HJ2 := Lib.hid hj; clear hj
          have HX2 := Lib.hid hx; clear hx HX
          by_cases hlt : k < g.length
          · go_wp2
            obtain ⟨wo, rfl⟩ : ∃ wo : World, wo = wr := ⟨_, rfl⟩
            go_loopw [6] (fun q wr => ∃ m : Nat, m ≤ g.length ∧ q = .int .i64 m ∧ (∀ j, j < m → (gN g k).testBit j = (gN g j).testBit k) ∧ Ext w wr) (fun q _ => g.length - (intOf q).toNat)
            case atStart => exact ⟨0, Nat.zero_le _, rfl, by simp, HX2.out⟩
            case round =>
              obtain ⟨m, hm', rfl, hj, hx⟩ := hrel
              have HJ3 := Lib.hid hj; clear hj
              have HX3 := Lib.hid hx; clear hx HX2
              by_cases hlm : m < g.length
              · obtain ⟨b, o, rfl, -, -, hc⟩ := HV.out.atI hlt
                have c1 := fun u => hc _ (HX3.out.trans (clip_ext wr u))
                clear hc
                obtain ⟨b', o', he, -, -, hc⟩ := HV.out.atI hlm
                obtain ⟨rfl, rfl⟩ : b = b' ∧ o = o' := by simpa using he
                have c2 := fun u => hc _ (HX3.out.trans (clip_ext wr u))
                clear hc he
                obtain ⟨r1, r2⟩ := HR.out k hlt
                obtain ⟨r3, r4⟩ := HR.out m hlm
                rw [r1] at c1; rw [r3] at c2
                clear r1 r3
                have q1 : ((gN g k).testBit m).toNat ≤ 1 := by cases (gN g k).testBit m <;> decide
                obtain ⟨x, hx⟩ : ∃ x, x = (gN g k).testBit m := ⟨_, rfl⟩
                obtain ⟨y, hy⟩ : ∃ y, y = (gN g m).testBit k := ⟨_, rfl⟩
                have L1 := l1Bit_c (gN g k) m r2 (by omega)
                have L2 := l1Bit_c (gN g m) k r4 (by omega)
                rw [← hx] at L1; rw [← hy] at L2
                have HL1 := Lib.hid L1; have HL2 := Lib.hid L2
                have HXX := Lib.hid hx; have HYY := Lib.hid hy
                clear L1 L2 hx hy q1
                by_cases he : x = y
                · subst he
                  go_wp2
                  refine wp_region_ext (by kernel_rfl) (by kernel_rfl) ?_
                  repeat (go_big_quiet_step (first | (go_at_call 48; with_reducible exact Calls.clip_same (HL1.out _)) | (go_at_call 48; with_reducible exact Calls.clip_same (HL2.out _))))
                  refine wpQuiet_nil ?_
                  rintro _ ⟨u, rfl⟩
                  go_wp2
                  go_roundw
                  case rel => exact ⟨m + 1, by omega, by go_num, fun j hj => by
                    by_cases h : j = m
                    · subst h; rw [← HXX.out, ← HYY.out]
                    · exact HJ3.out j (by omega), HX3.out.trans (clip_ext _ _)⟩
                  case measure => simp [intOf]; omega
                · have hne : (((x.toNat : Nat) : Int) != ((y.toNat : Nat) : Int)) = true := by cases x <;> cases y <;> first | rfl | exact absurd rfl he
                  have hne' : x.toNat ≠ y.toNat := by cases x <;> cases y <;> first | decide | exact absurd rfl he
                  have HE := Lib.hid he; clear he
                  go_wp2
                  refine wp_region_ext (by kernel_rfl) (by kernel_rfl) ?_
                  repeat (go_big_quiet_step (first | (go_at_call 48; with_reducible exact Calls.clip_same (HL1.out _)) | (go_at_call 48; with_reducible exact Calls.clip_same (HL2.out _))))
                  refine wpQuiet_nil ?_
                  rintro _ ⟨u, rfl⟩
                  go_wp2
                  go_ret
                  exact ⟨ret_bool (graphIn_sym (i := k) (k := m) (by rw [← HXX.out, ← HYY.out]; exact HE.out)).symm, HX3.out.trans (clip_ext _ _)⟩
              · obtain rfl : m = g.length := by omega
                go_wp2
                go_roundw
                case rel => exact ⟨k + 1, by omega, by go_num, fun j hj m hm => by
                  by_cases h : j = k
                  · subst h; exact HJ3.out m hm
                  · exact HJ2.out j (by omega) m hm, HX3.out⟩
                case measure => simp [intOf]; omega
          · obtain rfl : k = g.length := by omega
            go_wp2
            go_ret
            exact ⟨ret_bool (graphIn_of H0.out HJ.out HJ2.out).symm, HX2.out⟩
end Go.Proofs.Ytpmammklklkheaa
