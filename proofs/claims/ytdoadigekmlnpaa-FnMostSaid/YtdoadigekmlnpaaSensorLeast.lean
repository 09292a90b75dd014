/- The least code that bears wrong sensors: the reference and the program compute the same plain function. The condition: the list has at most 2^20 numbers. -/
import Derived.Test.YtdoadigekmlnpaaLeast
import Derived.Test.YtdoadigekmlnpaaReach
import Derived.Test.YtdoadigekmlnpaaFound
namespace Go.Proofs.Ytdoadigekmlnpaa
open Go.RowKit
open BigFrame

def sensorLeast (g : List Int) (t : Int) : Int × Bool := if graphIn g && inB 0 t 4 then loP (lo (fun s => bearsN g s t.toNat) (2 ^ g.length)) else (0, false)
/-- What the reference knows behind k sets. -/
def LoAt (p : Nat → Bool) (n k z m : Nat) : Prop := (lo p k = none ∧ z = 0 ∧ m = n + 1) ∨ (lo p k = some z ∧ m = cnt z ∧ z < k)
theorem LoAt.fin {p : Nat → Bool} {n k z m : Nat} (h : LoAt p n k z m) (hk : k ≤ 2 ^ n) : loP (lo p k) = (((z : Nat) : Int), decide (m ≤ n)) := by
  rcases h with ⟨h1, rfl, rfl⟩ | ⟨h1, rfl, h2⟩
  · rw [h1, decide_eq_false (by omega)]; rfl
  · rw [h1, decide_eq_true (cnt_lt_of_lt (show z < 2 ^ n by omega))]; rfl
theorem LoAt.take {p : Nat → Bool} {n k z m : Nat} (h : LoAt p n k z m) (hk : k < 2 ^ n) (hc : cnt k < m) (hp : p k = true) : LoAt p n (k + 1) k (cnt k) := by
  refine .inr ⟨?_, rfl, by omega⟩
  rcases h with ⟨h1, rfl, rfl⟩ | ⟨h1, rfl, h2⟩
  · rw [lo_none h1, hp]; rfl
  · rw [lo_some h1, hp, decide_eq_true hc]; rfl
theorem LoAt.skip {p : Nat → Bool} {n k z m : Nat} (h : LoAt p n k z m) (hk : k < 2 ^ n) (hp : ¬ cnt k < m ∨ p k = false) : LoAt p n (k + 1) z m := by
  have hle := cnt_lt_of_lt hk
  rcases h with ⟨h1, rfl, rfl⟩ | ⟨h1, rfl, h2⟩
  · refine .inl ⟨?_, rfl, rfl⟩
    rcases hp with hp | hp
    · omega
    · rw [lo_none h1, hp]; rfl
  · refine .inr ⟨?_, rfl, by omega⟩
    rcases hp with hp | hp
    · rw [lo_some h1, decide_eq_false hp]; rfl
    · rw [lo_some h1, hp, Bool.and_false]; rfl

set_option maxHeartbeats 2000000 in
theorem sensorLeastS_c (v : Value) (g : List Int) (t : Int) (w : World) (hv : Rd w v g) (hm : g.length ≤ 1048576) :
    Calls Try.prog 28 #[v, .int .i64 t] w fun e w' => e = .returned (pairV (sensorLeast g t)) ∧ Ext w w' := by
  obtain ⟨a, c, rfl⟩ := hv.form
  have HV := Lib.hid hv; clear hv
  have HM := Lib.hid hm
  cases h0 : graphIn g
  · rw [show sensorLeast g t = (0, false) from by unfold sensorLeast; rw [h0]; rfl]
    go_enter Try.func28, Try.ntmps28
    go_wp2_with (go_at_call 92; refine (graphInS_c _ _ _ HV.out HM.out).mono ?_; rintro e w1 ⟨rfl, x1⟩)
    go_ret2
    exact ⟨rfl, by assumption⟩
  · cases ht : inB 0 t 4
    · rw [show sensorLeast g t = (0, false) from by unfold sensorLeast; rw [ht, Bool.and_false]; rfl]
      go_enter Try.func28, Try.ntmps28
      go_wp2_with fail
      refine (graphInS_c _ _ _ HV.out HM.out).mono ?_
      rintro e w1 ⟨rfl, x1⟩
      have X1 := Lib.hid x1; clear x1
      go_wp2_with (go_at_call 93; refine (l6In_c _ _ _ _).mono ?_; rintro e w' ⟨rfl, rfl⟩)
      go_ret2
      exact ⟨rfl, X1.out⟩
    · have hG := graphIn_iff.1 h0
      have hl := hG.le
      have HG := Lib.hid hG
      obtain ⟨T, rfl⟩ : ∃ T : Nat, t = T := ⟨t.toNat, by have := inB_iff.1 ht; omega⟩
      have hT4 : T ≤ 4 := by have := inB_iff.1 ht; omega
      obtain ⟨p, hp, hp1, hp2, hp3⟩ := pow_var g.length (by omega)
      have hp4 : p ≤ 4096 := by rw [← hp]; exact pow_le_12 hl
      have e0 : min g.length 64 = g.length := by omega
      have HR : Hid (sensorLeast g T = loP (lo (fun s => bearsN g s T) p)) := by unfold Hid sensorLeast; rw [h0, ht, hp]; rfl
      rw [HR.out]
      have HP := Lib.hid hp
      have HTT := Lib.hid ht
      clear hG hp
      go_enter Try.func28, Try.ntmps28
      go_wp2_with fail
      refine (graphInS_c _ _ _ HV.out HM.out).mono ?_
      rintro e w1 ⟨rfl, x1⟩
      have X1 := Lib.hid x1; clear x1
      go_wp2_with (go_at_call 93; refine (l6In_c _ _ _ _).mono ?_; rintro e w' ⟨rfl, rfl⟩)
      clear ht h0
      go_loopw [6, 7, 8] (fun b m i wr => ∃ (k z M : Nat), k ≤ p ∧ i = .int .i64 k ∧ b = .int .i64 z ∧ m = .int .i64 M ∧ M ≤ 13 ∧ Hid (LoAt (fun s => bearsN g s T) g.length k z M) ∧ Hid (Ext w wr)) (fun _ _ i _ => p - (intOf i).toNat)
      case atStart => exact ⟨0, 0, g.length + 1, Nat.zero_le _, rfl, rfl, by go_num, by omega, .inl ⟨rfl, rfl, rfl⟩, X1.out⟩
      case round =>
        clear X1
        obtain ⟨k, z, M, hk, rfl, rfl, rfl, hM, HL, HX⟩ := hrel
        by_cases hlt : k < p
        · have hk4 : k ≤ 4095 := by omega
          have HKP : Hid (k < 2 ^ g.length) := by unfold Hid; rw [HP.out]; exact hlt
          have HC := Lib.hid fun w => l1Count_c k (by omega) w
          have hc12 := cnt_le k
          have HBE := Lib.hid (l5Bears_c (.slice a g.length c) g k T wr (HV.out.ext HX.out) HG.out hk4 hT4)
          by_cases hc : cnt k < M
          · cases hb : bearsN g k T
            · have HN := Lib.hid (HL.out.skip HKP.out (.inr hb))
              rw [hb] at HBE
              clear hb
              go_wp2_with (go_at_call 94; with_reducible refine (HC.out _).mono ?_; rintro e w' ⟨rfl, rfl⟩)
              refine HBE.out.mono ?_
              rintro e w2 ⟨rfl, x2⟩
              have X2 := Lib.hid (HX.out.trans x2); clear x2
              go_wp2
              go_roundw
              case rel => exact ⟨k + 1, z, M, by omega, by go_num, rfl, rfl, hM, HN.out, X2.out⟩
              case measure => simp [intOf]; omega
            · have HN := Lib.hid (HL.out.take HKP.out hc hb)
              rw [hb] at HBE
              clear hb
              go_wp2_with (go_at_call 94; with_reducible refine (HC.out _).mono ?_; rintro e w' ⟨rfl, rfl⟩)
              refine HBE.out.mono ?_
              rintro e w2 ⟨rfl, x2⟩
              have X2 := Lib.hid (HX.out.trans x2); clear x2
              go_wp2
              go_roundw
              case rel => exact ⟨k + 1, k, cnt k, by omega, by go_num, rfl, rfl, by omega, HN.out, X2.out⟩
              case measure => simp [intOf]; omega
          · have HN := Lib.hid (HL.out.skip HKP.out (.inl hc))
            go_wp2_with (go_at_call 94; with_reducible refine (HC.out _).mono ?_; rintro e w' ⟨rfl, rfl⟩)
            go_roundw
            case rel => exact ⟨k + 1, z, M, by omega, by go_num, rfl, rfl, hM, HN.out, HX.out⟩
            case measure => simp [intOf]; omega
        · obtain rfl : k = p := by omega
          have HF := Lib.hid (HL.out.fin (by rw [HP.out]; exact Nat.le_refl _))
          go_wp2
          go_ret2
          refine ⟨?_, HX.out⟩
          rw [HF.out, show decide (M ≤ g.length) = decide ((M : Int) ≤ (g.length : Int)) from by simp]
          rfl

theorem sensorLeast1_enters : ∀ args w, (callFunc 90 args).run Try.prog w = .ok (.enter 90 args) w :=
  Go.Proofs.enters_of Try.func90 (by kernel_rfl) rfl
set_option maxHeartbeats 1000000 in
theorem sensorLeast1_c (s T b bc tc : Nat) (v vb vf : Value) (vs : List Value) (g : List Int) (w : World) (hb : IsBook w b g v vb vf vs) (hg : IsGraph g) (hs : s ≤ 4095) (hT : T ≤ 4)
    (h1 : w.cell? ⟨bc, 0, none⟩ = some (.pointer (some ⟨b, 0, none⟩))) (h2 : w.cell? ⟨tc, 0, none⟩ = some (.int .i64 T)) :
    Calls Try.prog 90 #[.int .i64 s, .pointer (some ⟨bc, 0, none⟩), .pointer (some ⟨tc, 0, none⟩)] w fun e w' => e = .returned (.bool (bearsN g s T)) ∧ Ext w w' := by
  have HB := Lib.hid (bears_c b v vb vf vs g s T w hb hg hs hT)
  clear hb hg
  go_enter Try.func90, Try.ntmps90
  go_wp2_with fail
  refine HB.out.mono ?_
  rintro e w1 ⟨rfl, x1⟩
  go_wp2
  go_ret
  exact ⟨rfl, x1⟩

set_option maxRecDepth 100000 in
set_option maxHeartbeats 2000000 in
theorem sensorLeastI_c (v : Value) (g : List Int) (t : Int) (w : World) (hv : Rd w v g) (hm : g.length ≤ 1048576) :
    Calls Try.prog 27 #[v, .int .i64 t] w fun e w' => e = .returned (pairV (sensorLeast g t)) ∧ Ext w w' := by
  obtain ⟨a, c, rfl⟩ := hv.form
  obtain ⟨W, hW⟩ : ∃ W, W = w.alloc (.cells #[.int .i64 t] 3) := ⟨_, rfl⟩
  have hx0 : Ext w W := by rw [hW]; exact (Ext.refl _).alloc _
  have v0 : Var W w.heap.size (.int .i64 t) := by rw [hW]; exact Var.new _ _ _
  have HW := Lib.hid hW; have HX0 := Lib.hid hx0; have V0 := Lib.hid v0; have HV := Lib.hid (hv.ext hx0)
  have HM := Lib.hid hm
  clear hv hW hx0 v0
  cases h0 : graphIn g
  · rw [show sensorLeast g t = (0, false) from by unfold sensorLeast; rw [h0]; rfl]
    go_enter Try.func27, Try.ntmps27
    go_wp2_with fail
    rw [← HW.out]
    refine (graphInI_c _ _ _ HV.out HM.out).mono ?_
    rintro e w1 ⟨rfl, x1⟩
    have X1 := Lib.hid (HX0.out.trans x1); clear x1
    go_wp2
    go_ret2
    exact ⟨rfl, X1.out⟩
  · cases ht : inB 0 t 4
    · rw [show sensorLeast g t = (0, false) from by unfold sensorLeast; rw [ht, Bool.and_false]; rfl]
      go_enter Try.func27, Try.ntmps27
      go_wp2_with fail
      rw [← HW.out]
      refine (graphInI_c _ _ _ HV.out HM.out).mono ?_
      rintro e w1 ⟨rfl, x1⟩
      have X1 := Lib.hid (HX0.out.trans x1)
      have c0 := (V0.out.ext x1).cell
      clear x1
      go_wp2_with (go_at_call 87; refine (isBorne_c _ _).mono ?_; rintro e w' ⟨rfl, rfl⟩)
      go_ret2
      exact ⟨rfl, X1.out⟩
    · have hG := graphIn_iff.1 h0
      have hl := hG.le
      have hl1 := hG.pos
      have HG := Lib.hid hG
      obtain ⟨T, rfl⟩ : ∃ T : Nat, t = T := ⟨t.toNat, by have := inB_iff.1 ht; omega⟩
      have hT4 : T ≤ 4 := by have := inB_iff.1 ht; omega
      obtain ⟨p, hp⟩ : ∃ p : Nat, 2 ^ g.length = p := ⟨_, rfl⟩
      have hp4 : p ≤ 4096 := by rw [← hp]; exact pow_le_12 hl
      have hp5 : 1 ≤ p := by rw [← hp]; exact Nat.two_pow_pos _
      have HR : Hid (sensorLeast g T = loP (lo (fun s => bearsN g s T) p)) := by unfold Hid sensorLeast; rw [h0, ht, hp]; rfl
      have HAL := Lib.hid fun w hw => all_c (.slice a g.length c) g w hw hl
      rw [hp] at HAL
      clear hG hp
      go_enter Try.func27, Try.ntmps27
      go_wp2_with fail
      rw [← HW.out]
      refine (graphInI_c _ _ _ HV.out HM.out).mono ?_
      rintro e w1 ⟨rfl, x1⟩
      have X1 := Lib.hid x1
      have c0 := (V0.out.ext x1).cell
      clear x1
      go_wp2_with (go_at_call 87; refine (isBorne_c _ _).mono ?_; rintro e w' ⟨rfl, rfl⟩)
      refine (bookOf_c _ g _ (HV.out.ext X1.out) HG.out).mono ?_
      rintro e w2 ⟨b, vb, vf, vs, rfl, hb, hbk, x2⟩
      have BK := Lib.hid hbk; have X2 := Lib.hid (X1.out.trans x2); clear hbk x2 c0
      obtain ⟨W3, hW3⟩ : ∃ V, V = w2.alloc (.cells #[.pointer (some ⟨b, 0, none⟩)] 74) := ⟨_, rfl⟩
      have hx3 : Ext w2 W3 := by rw [hW3]; exact (Ext.refl _).alloc _
      have cg := (BK.out.ext hx3).graph
      have vb3 : Var W3 w2.heap.size (.pointer (some ⟨b, 0, none⟩)) := by rw [hW3]; exact Var.new _ _ _
      have HB3 := Lib.hid (BK.out.ext hx3); have HX3 := Lib.hid (X2.out.trans hx3); have VB3 := Lib.hid vb3; have VT3 := Lib.hid (V0.out.ext (X2.out.trans hx3))
      have HW3 := Lib.hid hW3
      rw [hW3] at cg
      clear hW3 hx3 vb3
      go_wp2_with fail
      rw [← HW3.out]
      refine (HAL.out _ (HV.out.ext HX3.out)).mono ?_
      rintro e w' ⟨rfl, rfl⟩
      go_wp2_with fail
      have HF : ∀ k, k < p → ∀ w', Ext W3 w' → Calls Try.prog 90 (#[.int .i64 (k : Nat)] ++ #[.pointer (some ⟨w2.heap.size, 0, none⟩), .pointer (some ⟨w.heap.size, 0, none⟩)]) w' fun e w'' => e = .returned (.bool ((fun s => bearsN g s T) k)) ∧ Ext w' w'' := fun k hk w' hx => by
        rw [show (#[.int .i64 (k : Nat)] ++ #[.pointer (some ⟨w2.heap.size, 0, none⟩), .pointer (some ⟨w.heap.size, 0, none⟩)] : Array Value) = #[.int .i64 (k : Nat), .pointer (some ⟨w2.heap.size, 0, none⟩), .pointer (some ⟨w.heap.size, 0, none⟩)] from by simp]
        exact sensorLeast1_c k T b w2.heap.size w.heap.size _ vb vf vs g w' (HB3.out.ext hx) HG.out (by omega) hT4 (VB3.out.ext hx).cell (VT3.out.ext hx).cell
      refine (least_c p 90 #[.pointer (some ⟨w2.heap.size, 0, none⟩), .pointer (some ⟨w.heap.size, 0, none⟩)] (fun s => bearsN g s T) W3 hp5 hp4 sensorLeast1_enters HF).mono ?_
      rintro e w4 ⟨rfl, x4⟩
      rw [← HR.out]
      unfold pairV
      have X4 := Lib.hid (HX0.out.trans (HX3.out.trans x4)); clear x4
      go_wp2
      go_ret2
      exact ⟨rfl, X4.out⟩
end Go.Proofs.Ytdoadigekmlnpaa
