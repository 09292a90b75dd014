/- What the walks of this seat rest on, one part: plain facts, and contracts of the functions that they reach. Each states its own condition. -/
import Derived.Test.YtkmfmhckpfomeaaGreatDoorB11
import Derived.Test.YtkmfmhckpfomeaaGreatDoorB10
import Derived.Test.YtkmfmhckpfomeaaGreatDoorB5
import Derived.Test.YtkmfmhckpfomeaaGreatDoorB8
set_option linter.all false
set_option linter.unusedSimpArgs false
set_option linter.unusedVariables false
/- The least code that bears wrong sensors: the reference and the program compute the same plain function. The condition: the list has at most 2^20 numbers. -/
namespace Go.Proofs.YtkmfmhckpfomeaaGreatDoor
open Go.RowKit
open BigFrame

def sensorLeast (g : List Int) (t : Int) : Int × Bool := if graphIn g && inB 0 t 4 then loP (lo (fun s => bearsN g s t.toNat) (2 ^ g.length)) else (0, false)
/-- What the reference knows behind k sets. -/
def LoAt (p : Nat → Bool) (n k z m : Nat) : Prop := (lo p k = none ∧ z = 0 ∧ m = n + 1) ∨ (lo p k = some z ∧ m = cnt z ∧ z < k)
theorem LoAt.fin {p : Nat → Bool} {n k z m : Nat} (h : LoAt p n k z m) (hk : k ≤ 2 ^ n) : loP (lo p k) = (((z : Nat) : Int), decide (m ≤ n)) := by
  rcases h with ⟨h1, rfl, rfl⟩ | ⟨h1, rfl, h2⟩
  · rw [h1, decide_eq_false (by omega)]; rfl
  · rw [h1, decide_eq_true (cnt_lt_of_lt (show z < 2 ^ n by omega))]; rfl
theorem LoAt.take {p : Nat → Bool} {n k z m : Nat} (h : LoAt p n k z m) (_ : k < 2 ^ n) (hc : cnt k < m) (hp : p k = true) : LoAt p n (k + 1) k (cnt k) := by
  refine .inr ⟨?_, rfl, by omega⟩
  rcases h with ⟨h1, rfl, rfl⟩ | ⟨h1, rfl, h2⟩
  · rw [lo_none h1, hp]; rfl
  · rw [lo_some h1, hp, decide_eq_true hc]; rfl
theorem LoAt.skip {p : Nat → Bool} {n k z m : Nat} (h : LoAt p n k z m) (hk : k < 2 ^ n) (hp : ¬ cnt k < m ∨ p k = false) : LoAt p n (k + 1) z m := by
  have hle := cnt_lt_of_lt hk
  rcases h with ⟨h1, rfl, rfl⟩ | ⟨h1, rfl, h2⟩
  · refine .inl ⟨?_, rfl, rfl⟩
    rcases hp with hp | hp
    · omega
    · rw [lo_none h1, hp]; rfl
  · refine .inr ⟨?_, rfl, by omega⟩
    rcases hp with hp | hp
    · rw [lo_some h1, decide_eq_false hp]; rfl
    · rw [lo_some h1, hp, Bool.and_false]; rfl

end Go.Proofs.YtkmfmhckpfomeaaGreatDoor

/- Codes by the reference: resolving codes; whether a set is a code of a kind; the least code. The condition: the list has at most 2^20 numbers. -/
namespace Go.Proofs.YtkmfmhckpfomeaaGreatDoor
open Go.RowKit
open BigFrame

theorem any_succ (p : Nat → Bool) (c : Nat) : (List.range (c + 1)).any p = ((List.range c).any p || p c) := by
  rw [List.range_succ, List.any_append]; simp
theorem any_more {p : Nat → Bool} {c n : Nat} (h : c ≤ n) (ht : (List.range c).any p = true) : (List.range n).any p = true := by
  rw [List.any_eq_true] at ht ⊢
  obtain ⟨x, hx, hp⟩ := ht
  exact ⟨x, List.mem_range.2 (by have := List.mem_range.1 hx; omega), hp⟩

set_option maxRecDepth 100000 in
set_option maxHeartbeats 4000000 in
theorem l2Resolves_c (v : Value) (vs : List Value) (g : List Int) (s : Nat) (w : World) (ht : IsTab w g v vs) (hg : IsGraph g) (hs : s ≤ 4095) :
    Calls Tryz.prog 196 #[v, .int .i64 s] w fun e w' => e = .returned (.bool (resN g s)) ∧ Ext w w' := by
  obtain ⟨bt, ct, rfl, hbt, hget⟩ := ht.get hg
  have HT := Lib.hid hget
  have hl := hg.le
  clear ht hg hget
  go_enter Tryz.func196, Tryz.ntmps196
  go_wp2
  go_loopw [5] (fun i wr => ∃ k : Nat, k ≤ g.length ∧ i = .int .i64 k ∧ Hid (∀ j, j < k → resRow g s j = true) ∧ Hid (Ext w wr)) (fun i _ => g.length - (intOf i).toNat)
  case atStart => exact ⟨0, Nat.zero_le _, rfl, fun j hj => absurd hj (Nat.not_lt_zero j), Ext.refl _⟩
  case round =>
    obtain ⟨i, hi, rfl, HI, HX⟩ := hrel
    by_cases hlt : i < g.length
    · go_wp2
      go_loopw [6] (fun q wr => ∃ k : Nat, k ≤ i ∧ q = .int .i64 k ∧ Hid (∀ j, j < k → resP g s i j = true) ∧ Hid (Ext w wr)) (fun q _ => i - (intOf q).toNat)
      case atStart => exact ⟨0, Nat.zero_le _, rfl, fun j hj => absurd hj (Nat.not_lt_zero j), HX⟩
      case round =>
        clear HX
        obtain ⟨k, hk, rfl, HJ, HX⟩ := hrel
        by_cases hlk : k < i
        · go_wp2
          go_loopw [7, 8] (fun f q wr => ∃ (c : Nat) (ok : Bool), c ≤ g.length ∧ f = .bool ok ∧ q = .int .i64 c ∧ Hid (ok = (List.range c).any (farP g s i k)) ∧ Hid (Ext w wr)) (fun _ q _ => g.length - (intOf q).toNat)
          case atStart => exact ⟨0, false, Nat.zero_le _, rfl, rfl, rfl, HX⟩
          case round =>
            clear HX
            obtain ⟨c, ok, hc, rfl, rfl, HOK, HX⟩ := hrel
            cases hok : ok
            · rw [hok] at HOK
              clear hok
              by_cases hlc : c < g.length
              · obtain ⟨ri, oi, ci, hi1, hi2⟩ := HT.out i hlt
                obtain ⟨rk, ok', ck, hk1, hk2⟩ := HT.out k (by omega)
                have c1 := fun u => hi1 _ (HX.out.trans (clip_ext wr u))
                have c2 := fun u => hi2 c hlc _ (HX.out.trans (clip_ext wr u))
                have c3 := fun u => hk1 _ (HX.out.trans (clip_ext wr u))
                have c4 := fun u => hk2 c hlc _ (HX.out.trans (clip_ext wr u))
                have hd1 := dd_le g i c
                have hd2 := dd_le g k c
                obtain ⟨di, hdi⟩ : ∃ d, d = dd g i c := ⟨_, rfl⟩
                obtain ⟨dk, hdk⟩ : ∃ d, d = dd g k c := ⟨_, rfl⟩
                rw [← hdi] at c2 hd1
                rw [← hdk] at c4 hd2
                have HDI := Lib.hid hdi; have HDK := Lib.hid hdk
                have HBT := Lib.hid (l1Bit_c s c (by omega) (by omega))
                clear hi1 hi2 hk1 hk2 hdi hdk
                cases hbs : s.testBit c
                · have HFP : Hid (farP g s i k c = false) := by unfold Hid farP; rw [hbs]; rfl
                  rw [hbs] at HBT
                  clear hbs
                  go_wp2
                  refine wp_region_ext (by kernel_rfl) (by kernel_rfl) ?_
                  repeat (go_big_quiet_step ((go_at_call 152; exact Calls.clip_same (HBT.out _))))
                  refine wpQuiet_nil ?_
                  rintro _ ⟨u, rfl⟩
                  go_wp2
                  go_roundw
                  case rel => exact ⟨c + 1, _, by omega, rfl, by go_num, by unfold Hid; rw [any_succ, ← HOK.out, HFP.out]; rfl, HX.out.trans (clip_ext _ _)⟩
                  case measure => simp [intOf]; omega
                · rw [hbs] at HBT
                  by_cases he : di = dk
                  · have he' : ((di : Int) != (dk : Int)) = false := by simp [he]
                    have HFP : Hid (farP g s i k c = false) := by unfold Hid farP; rw [← HDI.out, ← HDK.out]; simp [he]
                    clear hbs he
                    go_wp2
                    refine wp_region_ext (by kernel_rfl) (by kernel_rfl) ?_
                    repeat (go_big_quiet_step ((go_at_call 152; exact Calls.clip_same (HBT.out _))))
                    refine wpQuiet_nil ?_
                    rintro _ ⟨u, rfl⟩
                    go_wp2
                    go_roundw
                    case rel => exact ⟨c + 1, _, by omega, rfl, by go_num, by unfold Hid; rw [any_succ, ← HOK.out, HFP.out]; rfl, HX.out.trans (clip_ext _ _)⟩
                    case measure => simp [intOf]; omega
                  · have he' : ((di : Int) != (dk : Int)) = true := by simp; omega
                    have HFP : Hid (farP g s i k c = true) := by unfold Hid farP; rw [hbs, ← HDI.out, ← HDK.out]; simp [he]
                    clear hbs he
                    go_wp2
                    refine wp_region_ext (by kernel_rfl) (by kernel_rfl) ?_
                    repeat (go_big_quiet_step ((go_at_call 152; exact Calls.clip_same (HBT.out _))))
                    refine wpQuiet_nil ?_
                    rintro _ ⟨u, rfl⟩
                    go_wp2
                    go_roundw
                    case rel => exact ⟨c + 1, _, by omega, rfl, by go_num, by unfold Hid; rw [any_succ, ← HOK.out, HFP.out]; rfl, HX.out.trans (clip_ext _ _)⟩
                    case measure => simp [intOf]; omega
              · obtain rfl : c = g.length := by omega
                have HF : Hid (resN g s = false) := by
                  unfold Hid resN
                  refine bears_false hlt ?_
                  unfold resRow
                  exact bears_false hlk HOK.out.symm
                go_wp2
                go_ret
                exact ⟨ret_bool HF.out.symm, HX.out⟩
            · rw [hok] at HOK
              clear hok
              have HT1 : Hid (resP g s i k = true) := any_more hc HOK.out.symm
              by_cases hlc : c < g.length
              · go_wp2
                go_roundw
                case rel => exact ⟨k + 1, by omega, by go_num, fun j hj => by
                  by_cases h : j = k
                  · subst h; exact HT1.out
                  · exact HJ.out j (by omega), HX⟩
                case measure => simp [intOf]; omega
              · go_wp2
                go_roundw
                case rel => exact ⟨k + 1, by omega, by go_num, fun j hj => by
                  by_cases h : j = k
                  · subst h; exact HT1.out
                  · exact HJ.out j (by omega), HX⟩
                case measure => simp [intOf]; omega
        · obtain rfl : k = i := by omega
          go_wp2
          go_roundw
          case rel => exact ⟨k + 1, by omega, by go_num, fun j hj => by
            by_cases h : j = k
            · subst h; exact bears_true HJ.out
            · exact HI.out j (by omega), HX⟩
          case measure => simp [intOf]; omega
    · obtain rfl : i = g.length := by omega
      go_wp2
      go_ret
      exact ⟨ret_bool (bears_true HI.out).symm, HX.out⟩

set_option maxHeartbeats 1000000 in
theorem l2In_c (v vt : Value) (vs : List Value) (g : List Int) (K s : Nat) (w : World) (hv : Rd w v g) (ht : IsTab w g vt vs) (hg : IsGraph g) (hs : s ≤ 4095) (hK : K ≤ 3) :
    Calls Tryz.prog 162 #[v, vt, .int .i64 K, .int .i64 s] w fun e w' => e = .returned (.bool (kindN g K s)) ∧ Ext w w' := by
  obtain ⟨a, c, rfl⟩ := hv.form
  have HM := Lib.hid (l2Marks_c _ g s w hv hg hs)
  have HT := Lib.hid ht; have HG := Lib.hid hg
  clear hv ht hg
  have enter : ∀ (K : Nat), K ≤ 3 → kindN g K s = (if K = 0 then covN g s else if K = 1 then covN g s && apartN g s false else if K = 2 then covN g s && apartN g s true else resN g s) := fun _ _ => rfl
  rw [enter K hK]
  clear enter
  obtain rfl | rfl | rfl | rfl : K = 0 ∨ K = 1 ∨ K = 2 ∨ K = 3 := by omega
  · go_enter Tryz.func162, Tryz.ntmps162
    go_wp2_with fail
    refine HM.out.mono ?_
    rintro e w1 ⟨vm, rfl, om, x1⟩
    have OM := Lib.hid om.rd; have X1 := Lib.hid x1; clear om x1
    go_wp2_with (go_at_call 194; refine (l2Covers_c _ g s _ OM.out HG.out).mono ?_; rintro e w' ⟨rfl, rfl⟩)
    go_ret
    exact ⟨rfl, X1.out⟩
  · cases hc : covN g s
    · go_enter Tryz.func162, Tryz.ntmps162
      go_wp2_with fail
      refine HM.out.mono ?_
      rintro e w1 ⟨vm, rfl, om, x1⟩
      have OM := Lib.hid om.rd; have X1 := Lib.hid x1; clear om x1
      go_wp2_with (go_at_call 194; refine (l2Covers_c _ g s _ OM.out HG.out).mono ?_; rintro e w' ⟨rfl, rfl⟩)
      go_ret
      exact ⟨rfl, X1.out⟩
    · go_enter Tryz.func162, Tryz.ntmps162
      go_wp2_with fail
      refine HM.out.mono ?_
      rintro e w1 ⟨vm, rfl, om, x1⟩
      have OM := Lib.hid om.rd; have X1 := Lib.hid x1; clear om x1
      go_wp2_with (first | (go_at_call 194; refine (l2Covers_c _ g s _ OM.out HG.out).mono ?_; rintro e w' ⟨rfl, rfl⟩) | (go_at_call 195; refine (l2ApartF_c _ g s _ OM.out HG.out hs).mono ?_; rintro e w2 ⟨rfl, x2⟩))
      go_ret
      exact ⟨rfl, X1.out.trans (by assumption)⟩
  · cases hc : covN g s
    · go_enter Tryz.func162, Tryz.ntmps162
      go_wp2_with fail
      refine HM.out.mono ?_
      rintro e w1 ⟨vm, rfl, om, x1⟩
      have OM := Lib.hid om.rd; have X1 := Lib.hid x1; clear om x1
      go_wp2_with (go_at_call 194; refine (l2Covers_c _ g s _ OM.out HG.out).mono ?_; rintro e w' ⟨rfl, rfl⟩)
      go_ret
      exact ⟨rfl, X1.out⟩
    · go_enter Tryz.func162, Tryz.ntmps162
      go_wp2_with fail
      refine HM.out.mono ?_
      rintro e w1 ⟨vm, rfl, om, x1⟩
      have OM := Lib.hid om.rd; have X1 := Lib.hid x1; clear om x1
      go_wp2_with (first | (go_at_call 194; refine (l2Covers_c _ g s _ OM.out HG.out).mono ?_; rintro e w' ⟨rfl, rfl⟩) | (go_at_call 195; refine (l2ApartT_c _ g s _ OM.out HG.out hs).mono ?_; rintro e w2 ⟨rfl, x2⟩))
      go_ret
      exact ⟨rfl, X1.out.trans (by assumption)⟩
  · go_enter Tryz.func162, Tryz.ntmps162
    go_wp2_with fail
    refine HM.out.mono ?_
    rintro e w1 ⟨vm, rfl, om, x1⟩
    have X1 := Lib.hid x1
    clear om x1
    go_wp2_with (go_at_call 196; refine (l2Resolves_c _ vs g s _ (HT.out.ext X1.out) HG.out hs).mono ?_; rintro e w2 ⟨rfl, x2⟩)
    go_ret
    exact ⟨rfl, X1.out.trans (by assumption)⟩
end Go.Proofs.YtkmfmhckpfomeaaGreatDoor

/- Whether a pool tells wrong items: the reference and the program compute the same plain function. The condition: the list has at most 2^20 numbers. -/
namespace Go.Proofs.YtkmfmhckpfomeaaGreatDoor
open Go.RowKit
open BigFrame
attribute [local go_sem] Oper.semAt_some

/-- Whether one of the first k sets has these answers. -/
def seenTo (tests : List Int) (d k a : Nat) : Bool := (List.range k).any fun j => fewB d j && (answersOf tests j == a)
def tellsTo (tests : List Int) (d N : Nat) : Bool := (List.range N).all fun k => !(fewB d k && seenTo tests d k (answersOf tests k))
def poolTells (items : Int) (tests : List Int) (d : Int) : Bool := poolIn items tests && inB 0 d 3 && tellsTo tests d.toNat (2 ^ items.toNat)
theorem seenTo_skip {tests : List Int} {d k : Nat} (h : fewB d k = false) (a : Nat) : seenTo tests d (k + 1) a = seenTo tests d k a := by
  unfold seenTo
  rw [List.range_succ, List.any_append]
  simp [h]
theorem seenTo_next {tests : List Int} {d k : Nat} (h : fewB d k = true) (a : Nat) : seenTo tests d (k + 1) a = (seenTo tests d k a || (answersOf tests k == a)) := by
  unfold seenTo
  rw [List.range_succ, List.any_append]
  simp [h]
theorem tellsTo_false {tests : List Int} {d N k : Nat} (hk : k < N) (h : fewB d k = true) (hs : seenTo tests d k (answersOf tests k) = true) : tellsTo tests d N = false := by
  unfold tellsTo
  rw [List.all_eq_false]
  exact ⟨k, List.mem_range.2 hk, by rw [h, hs]; decide⟩
theorem tellsTo_true {tests : List Int} {d N : Nat} (h : ∀ k, k < N → fewB d k = true → seenTo tests d k (answersOf tests k) = false) : tellsTo tests d N = true := by
  unfold tellsTo
  rw [List.all_eq_true]
  intro k hk
  cases hf : fewB d k
  · rfl
  · rw [h k (List.mem_range.1 hk) hf]; rfl
theorem few_iff' {d k : Nat} : fewB d k = true ↔ cnt k ≤ d := by simp [fewB]
theorem info_bool : (Tryz.prog.info? 4).map (fun i => (i.zero, i.size, i.bytes)) = some (some (.bool false), 1, 1) := by kernel_rfl

set_option maxHeartbeats 1000000 in
theorem poolTellsS_c (items : Int) (v : Value) (xs : List Int) (d : Int) (w : World) (hv : Rd w v xs) (hm : xs.length ≤ 1048576) :
    Calls Tryz.prog 125 #[.int .i64 items, v, .int .i64 d] w fun e w' => e = .returned (.bool (poolTells items xs d)) ∧ Ext w w' := by
  obtain ⟨a, c, rfl⟩ := hv.form
  have HV := Lib.hid hv; clear hv
  have HM := Lib.hid hm
  cases h0 : poolIn items xs
  · rw [show poolTells items xs d = false from by unfold poolTells; rw [h0]; rfl]
    go_enter Tryz.func125, Tryz.ntmps125
    go_wp2_with (go_at_call 164; refine (poolInS_c _ _ _ _ HV.out HM.out).mono ?_; rintro e w1 ⟨rfl, x1⟩)
    go_ret
    exact ⟨rfl, by assumption⟩
  · cases hd : inB 0 d 3
    · rw [show poolTells items xs d = false from by unfold poolTells; rw [h0, hd]; rfl]
      go_enter Tryz.func125, Tryz.ntmps125
      go_wp2_with (first | (go_at_call 164; refine (poolInS_c _ _ _ _ HV.out HM.out).mono ?_; rintro e w1 ⟨rfl, x1⟩) | (go_at_call 37; refine (l6In_c _ _ _ _).mono ?_; rintro e w' ⟨rfl, rfl⟩))
      go_ret
      exact ⟨rfl, by assumption⟩
    · obtain ⟨n, rfl, hP⟩ := poolIn_iff.1 h0
      have hn := hP.le
      have hl := hP.len
      have HP := Lib.hid hP; clear hP
      obtain ⟨D, rfl⟩ : ∃ D : Nat, d = D := ⟨d.toNat, by have := inB_iff.1 hd; omega⟩
      obtain ⟨p, hp, hp1, hp2, hp3⟩ := pow_var n (by omega)
      have hp4 : p ≤ 4096 := by rw [← hp]; exact pow_le_12 hn
      have HP2 := Lib.hid hp; clear hp
      have e0 : min n 64 = n := by omega
      obtain ⟨p', hp', hp1', hp2', hp3'⟩ := pow_var xs.length (by omega)
      have hp4' : p' ≤ 65536 := by rw [← hp']; exact pow_le_16 hl
      have HP2' := Lib.hid hp'; clear hp'
      have e0' : min xs.length 64 = xs.length := by omega
      rw [show poolTells n xs D = tellsTo xs D p from by unfold poolTells; rw [h0, hd]; show tellsTo xs D (2 ^ n) = _; rw [HP2.out]]
      obtain ⟨i0, hi, hz0, hz1, hz2⟩ := info_parts info_bool
      go_enter Tryz.func125, Tryz.ntmps125
      go_wp2_with fail
      refine (poolInS_c _ _ _ _ HV.out HM.out).mono ?_
      rintro e w1 ⟨rfl, x1⟩
      have X1 := Lib.hid x1; clear x1
      go_wp2_with (first | (go_at_call 37; refine (l6In_c _ _ _ _).mono ?_; rintro e w' ⟨rfl, rfl⟩) | (at_make; refine wpList_make_full _ rfl _ _ 149 rfl w1.heap.size 4 i0 (.bool false) 1 Tryz.underlying149 hi hz0 hz1 _ _ _ _ p' rfl rfl rfl rfl (by rw [hz2]; omega) (by unfold maxLen; omega) (Nat.le_refl _) ?_; intro w2 hown hg))
      have HX : Hid (Ext w1 w2) := (Ext.refl w1).grown hg (fun _ h => by cases h)
      have HC : Hid (∀ i, i < p' → w2.cell? ⟨w1.heap.size, i, none⟩ = some (.bool (seenTo xs D 0 i))) := fun i hi => by
        have h := World.ownsRow.cellAt hown i (by omega)
        rw [h]
        simp only [Value.cells, Nat.mul_one, toList_madeCells_one]
        simp [hi, seenTo]
      have HF : Hid (∀ i, w2.frozen? ⟨w1.heap.size, i, none⟩ = false) := fun i => World.ownsRow.frozenAt hown i
      have HG : w1.heap.size < w2.heap.size := by
        obtain ⟨_, ⟨h, _⟩ | ⟨g, cap, cur, h, _, hh, _⟩⟩ := hown
        · cases h
        · simp only [Value.slice.injEq, Option.some.injEq, Addr.mk.injEq, and_true] at h
          rw [h.1]; exact (Array.getElem?_eq_some_iff.1 hh).1
      clear hown hg hi hz0 hz1 hz2
      go_loopw [8] (fun i wr => ∃ k : Nat, k ≤ p ∧ i = .int .i64 k ∧ Hid (∀ i, i < p' → wr.cell? ⟨w1.heap.size, i, none⟩ = some (.bool (seenTo xs D k i))) ∧ Hid (∀ i, wr.frozen? ⟨w1.heap.size, i, none⟩ = false) ∧ Hid (∀ j, j < k → fewB D j = true → seenTo xs D j (answersOf xs j) = false) ∧ Ext w1 wr) (fun i _ => p - (intOf i).toNat)
      case atStart => exact ⟨0, Nat.zero_le _, rfl, HC, HF, fun j hj => absurd hj (Nat.not_lt_zero j), HX.out⟩
      case round =>
        obtain ⟨k, hk, rfl, HC, HF, HJ, hx⟩ := hrel
        have HX := Lib.hid hx; clear hx
        by_cases hlt : k < p
        · by_cases hf : cnt k ≤ D
          · have h4 : k ≤ 4095 := by omega
            have HL := Lib.hid (l4Answers_c n _ _ k wr (HV.out.ext (X1.out.trans HX.out)) HP.out h4)
            have HFW := Lib.hid (few_iff'.2 hf)
            have ha : answersOf xs k < p' := by rw [← HP2'.out]; exact answersTo_lt xs k xs.length
            have HA : Hid (∃ A, A = answersOf xs k) := ⟨_, rfl⟩
            obtain ⟨A, hA⟩ := HA.out
            rw [← hA] at ha HL
            have c1 := HC.out A ha
            have f1 := HF.out A
            cases hs : seenTo xs D k A
            · rw [hs] at c1
              have HS := Lib.hid hs; have HA := Lib.hid hA; clear hs hA
              go_wp2_with (first | (go_at_call 156; refine (l1Count_c k (by omega) _).mono ?_; rintro e w' ⟨rfl, rfl⟩) | (go_at_call 165; refine HL.out.mono ?_; rintro e w' ⟨rfl, rfl⟩))
              go_roundw
              case rel => exact ⟨k + 1, by omega, by go_num, fun i hi => by
                rw [seenTo_next HFW.out, ← HA.out]
                by_cases h : i = A
                · subst h
                  rw [World.cell?_setCell_same' _ _ _ (by rw [HC.out i hi]; rfl)]
                  simp
                · rw [World.cell?_setCell_other _ _ _ _ (fun e => h (congrArg Addr.off e).symm), HC.out i hi, beq_eq_false_iff_ne.2 (fun e => h e.symm), Bool.or_false], fun i => by rw [World.frozen?_setCell]; exact HF.out i, fun j hj hfj => by
                  by_cases h : j = k
                  · subst h; rw [← HA.out]; exact HS.out
                  · exact HJ.out j (by omega) hfj, HX.out.setCell (Nat.le_refl _) _⟩
              case measure => simp [intOf]; omega
            · rw [hs] at c1
              have HS := Lib.hid hs; have HA := Lib.hid hA; clear hs hA
              go_wp2_with (first | (go_at_call 156; refine (l1Count_c k (by omega) _).mono ?_; rintro e w' ⟨rfl, rfl⟩) | (go_at_call 165; refine HL.out.mono ?_; rintro e w' ⟨rfl, rfl⟩))
              go_ret
              exact ⟨ret_bool (tellsTo_false hlt HFW.out (by rw [← HA.out]; exact HS.out)).symm, X1.out.trans HX.out⟩
          · have HFW : Hid (fewB D k = false) := by unfold Hid fewB; simp; omega
            go_wp2_with (first | (go_at_call 156; refine (l1Count_c k (by omega) _).mono ?_; rintro e w' ⟨rfl, rfl⟩))
            go_roundw
            case rel => exact ⟨k + 1, by omega, by go_num, fun i hi => by rw [seenTo_skip HFW.out]; exact HC.out i hi, HF, fun j hj hfj => by
              by_cases h : j = k
              · subst h; rw [HFW.out] at hfj; cases hfj
              · exact HJ.out j (by omega) hfj, HX.out⟩
            case measure => simp [intOf]; omega
        · obtain rfl : k = p := by omega
          go_wp2
          go_ret
          exact ⟨ret_bool (tellsTo_true HJ.out).symm, X1.out.trans HX.out⟩

theorem IntMap.book {B : Nat} {w w' : World} {b : Nat} {f : Int → Option Value} (h : IntMap w b f) (hB : Book B w w') (hb : b < B) : IntMap w' b f := by
  obtain ⟨es, clock, hh, hf⟩ := h
  exact ⟨es, clock, hB.block _ _ hh (.inl hb), hf⟩
/-- The map holds true just at the answers that came. -/
def SeenMap (w : World) (b : Nat) (tests : List Int) (d k : Nat) : Prop := ∃ f, IntMap w b f ∧ ∀ a : Nat, f (a : Int) = if seenTo tests d k a then some (.bool true) else none

set_option maxRecDepth 100000 in
set_option maxHeartbeats 2000000 in
theorem poolTellsI_c (items : Int) (v : Value) (xs : List Int) (d : Int) (w : World) (hv : Rd w v xs) (hm : xs.length ≤ 1048576) :
    Calls Tryz.prog 108 #[.int .i64 items, v, .int .i64 d] w fun e w' => e = .returned (.bool (poolTells items xs d)) ∧ Ext w w' := by
  obtain ⟨a, c, rfl⟩ := hv.form
  obtain ⟨W, hW⟩ : ∃ W, W = w.alloc (.cells #[.bool false] 4) := ⟨_, rfl⟩
  have hx : Ext w W := by rw [hW]; exact (Ext.refl _).alloc _
  have v0 : Var W w.heap.size (.bool false) := by rw [hW]; exact Var.new _ _ _
  have HV := Lib.hid (hv.ext hx); clear hv
  have HM := Lib.hid hm
  have HW := Lib.hid hW
  have HX0 := Lib.hid hx
  have V0 := Lib.hid v0
  have hmk : ∀ w : World, (Instr.makeMap 123 none).run Tryz.prog w = .ok (.map (some w.heap.size)) (w.alloc (.map #[] 0)) := fun w => rfl
  clear hW hx v0
  refine calls_marks Tryz.func108 rfl ?_
  simp only [Tryz.ntmps108, List.size_toArray, List.length_cons, List.length_nil, Nat.reduceAdd, Nat.reduceSub, Array.replicate_succ, Array.replicate_zero, List.push_toArray, List.append_toArray, List.nil_append, List.cons_append]
  cases h0 : poolIn items xs
  · rw [show poolTells items xs d = false from by unfold poolTells; rw [h0]; rfl]
    go_wp2_with fail
    rw [← HW.out]
    refine (poolInI_c _ _ _ _ HV.out HM.out).mono ?_
    rintro e w1 ⟨rfl, x1⟩
    have X1 := Lib.hid x1; clear x1
    obtain ⟨c0, f0, -⟩ := V0.out.ext X1.out
    go_wp2
    exact leave_bool rfl rfl ((V0.out.ext X1.out).set _).cell (Marks.nil _ _) ((HX0.out.trans X1.out).setCell (Nat.le_refl _) _) rfl
  · cases hd : inB 0 d 3
    · rw [show poolTells items xs d = false from by unfold poolTells; rw [h0, hd]; rfl]
      go_wp2_with fail
      rw [← HW.out]
      refine (poolInI_c _ _ _ _ HV.out HM.out).mono ?_
      rintro e w1 ⟨rfl, x1⟩
      have X1 := Lib.hid x1; clear x1
      obtain ⟨c0, f0, -⟩ := V0.out.ext X1.out
      go_wp2_with (go_at_call 145; refine (isFew_c _ _).mono ?_; rintro e w' ⟨rfl, rfl⟩)
      exact leave_bool rfl rfl ((V0.out.ext X1.out).set _).cell (Marks.nil _ _) ((HX0.out.trans X1.out).setCell (Nat.le_refl _) _) rfl
    · obtain ⟨n, rfl, hP⟩ := poolIn_iff.1 h0
      have hl := hP.len
      have hn := hP.le
      have HP := Lib.hid hP; clear hP
      obtain ⟨D, rfl⟩ : ∃ D : Nat, d = D := ⟨d.toNat, by have := inB_iff.1 hd; omega⟩
      rw [show poolTells n xs D = tellsTo xs D (2 ^ n) from by unfold poolTells; rw [h0, hd]; rfl]
      go_wp2_with fail
      rw [← HW.out]
      refine (poolInI_c _ _ _ _ HV.out HM.out).mono ?_
      rintro e w1 ⟨rfl, x1⟩
      have X1 := Lib.hid x1; clear x1
      go_wp2_with (go_at_call 145; refine (isFew_c _ _).mono ?_; rintro e w' ⟨rfl, rfl⟩)
      clear hmk
      obtain ⟨Wa, hWa⟩ : ∃ V, V = w1.alloc (.cells #[.int .i64 (n : Int), .slice a xs.length c] 136) := ⟨_, rfl⟩
      rw [← hWa]
      have hsa : Wa.heap.size = w1.heap.size + 1 := by rw [hWa]; simp
      have hpa := two_cells (by rw [hWa]; exact World.alloc_heap_new w1 _ : Wa.heap[w1.heap.size]? = some (.cells #[.int .i64 (n : Int), .slice a xs.length c] 136 (0, 0)))
      have hxa : Ext W Wa := by rw [hWa]; exact X1.out.alloc _
      obtain ⟨Wb, hWb⟩ : ∃ V, V = Wa.alloc (.map #[] 0) := ⟨_, rfl⟩
      rw [← hWb]
      have hmb : IntMap Wb (w1.heap.size + 1) (fun _ => none) := by rw [hWb, ← hsa]; exact IntMap.empty Wa
      have hsb : Wb.heap.size = w1.heap.size + 1 + 1 := by rw [hWb, World.size_alloc, hsa]
      have hxb : Ext Wa Wb := by rw [hWb]; exact (Ext.refl _).alloc _
      obtain ⟨Wc, hWc⟩ : ∃ V, V = Wb.alloc (.cells #[.map (some (w1.heap.size + 1))] 123) := ⟨_, rfl⟩
      rw [← hWc]
      have hvc : Var Wc (w1.heap.size + 1 + 1) (.map (some (w1.heap.size + 1))) := by rw [hWc, ← hsb]; exact Var.new _ _ _
      have hsc : Wc.heap.size = w1.heap.size + 1 + 1 + 1 := by rw [hWc, World.size_alloc, hsb]
      have hxc : Ext Wb Wc := by rw [hWc]; exact (Ext.refl _).alloc _
      refine (few_c _ _ _ _ _ _).mono ?_
      rintro e w' ⟨rfl, rfl⟩
      obtain ⟨W2, hW2⟩ : ∃ W2, W2 = (Wc.alloc (.cells #[.int .i64 (n : Int), .slice a xs.length c] 136)).alloc (.cells #[.int .i64 (D : Int)] 3) := ⟨_, rfl⟩
      rw [← hW2]
      have hx2 : Ext Wc W2 := by rw [hW2]; exact ((Ext.refl _).alloc _).alloc _
      have hq1 : W2.cell? ⟨Wc.heap.size, 0, none⟩ = some (.int .i64 n) := by
        rw [hW2]
        have h := (two_cells (World.alloc_heap_new Wc (.cells #[.int .i64 (n : Int), .slice a xs.length c] 136))).1
        exact (((Ext.refl _).alloc _).cell (by simp)).trans h
      have hq2 : W2.cell? ⟨Wc.heap.size + 1, 0, none⟩ = some (.int .i64 D) := by
        rw [hW2]
        have h := (Var.new (Wc.alloc (.cells #[.int .i64 (n : Int), .slice a xs.length c] 136)) (.int .i64 D) 3).cell
        rw [World.size_alloc] at h; exact h
      have hs2 : W2.heap.size = Wc.heap.size + 2 := by rw [hW2]; simp
      have HXA := Lib.hid hxa; have HPA := Lib.hid hpa; have HX2 := Lib.hid (hxb.trans (hxc.trans hx2))
      have HMB := Lib.hid (hmb.ext (hxc.trans hx2)); have HVC := Lib.hid (hvc.ext hx2); have HQ1 := Lib.hid hq1; have HQ2 := Lib.hid hq2
      have l1 : w1.heap.size < Wa.heap.size := by omega
      have l2 : Wa.heap.size ≤ w1.heap.size + 1 := by omega
      have l3 : w1.heap.size + 1 + 1 + 1 ≤ Wc.heap.size := by omega
      have l4 : Wc.heap.size + 2 ≤ W2.heap.size := by omega
      clear hWa hWb hWc hW2 hsa hsb hsc hs2 hpa hxa hmb hxb hvc hxc hx2 hq1 hq2
      go_wp2
      refine wp_range (few_iter Wc.heap.size (Wc.heap.size + 1) n D hn) rfl few_enters rfl
        (fun k W' => (∀ j, j < k → fewB D j = true → seenTo xs D j (answersOf xs j) = false) ∧ SeenMap W' (w1.heap.size + 1) xs D k ∧ Ext Wa W' ∧ W2.heap.size ≤ W'.heap.size ∧
          W'.cell? ⟨w1.heap.size + 1 + 1, 0, none⟩ = some (.map (some (w1.heap.size + 1))) ∧ W'.cell? ⟨Wc.heap.size, 0, none⟩ = some (.int .i64 n) ∧ W'.cell? ⟨Wc.heap.size + 1, 0, none⟩ = some (.int .i64 D))
        (fun cc W' => cc = .ret ∧ tellsTo xs D (2 ^ n) = false ∧ W'.cell? ⟨w.heap.size, 0, none⟩ = some (.bool false) ∧ Ext w W')
        ?hI ?hIx ?hKi ?h0 ?hskip ?hround ?hdone ?hstop
      case hI =>
        rintro j W' W'' hB ⟨h1, ⟨f, h2, h2'⟩, h3, h4, h5, h6, h7⟩
        exact ⟨h1, ⟨f, h2.book hB (by omega), h2'⟩, h3.book (by omega) hB, Nat.le_trans h4 hB.size, hB.cell h5, hB.cell h6, hB.cell h7⟩
      case hIx =>
        rintro cc W' W'' hB ⟨h1, h2, h3, h4⟩
        exact ⟨h1, h2, hB.cell h3, h4.book (((HX0.out.trans HXA.out).trans HX2.out).size) hB⟩
      case hKi =>
        rintro j W' ⟨_, _, _, h4, _, h6, h7⟩
        exact ⟨h6, h7, by omega, by omega⟩
      case h0 => exact ⟨fun j hj => absurd hj (Nat.not_lt_zero j), ⟨_, HMB.out, fun a => by simp [seenTo]⟩, HX2.out, Nat.le_refl _, HVC.out.cell, HQ1.out, HQ2.out⟩
      case hskip =>
        rintro j W' hj hp ⟨h1, ⟨f, h2, h2'⟩, h3⟩
        exact ⟨fun i hi hf => by
          by_cases h : i = j
          · subst h; rw [hp] at hf; cases hf
          · exact h1 i (by omega) hf, ⟨f, h2, fun a => by rw [seenTo_skip hp]; exact h2' a⟩, h3⟩
      case hround =>
        rintro l j W' hj hp ⟨h1, ⟨f, h2, h2'⟩, h3, h4, h5, h6, h7⟩ hsz
        have H1 := Lib.hid h1; have H2 := Lib.hid h2; have H2' := Lib.hid h2'; have H3 := Lib.hid h3; have H5 := Lib.hid h5; have H6 := Lib.hid h6; have H7 := Lib.hid h7; have HP1 := Lib.hid hp
        clear h1 h2 h2' h3 h5 h6 h7 hp
        have hj4 : j ≤ 4095 := by have := pow_le_12 hn; omega
        gi_wp2
        refine ⟨KeepsFrom.refl _ _, fun W'' hB => ?_⟩
        have hE : Hid (Ext Wa W'') := H3.out.book (by omega) hB
        have hM := Lib.hid (H2.out.book hB (by omega))
        have hc5 := Lib.hid (hB.cell H5.out); have hc6 := Lib.hid (hB.cell H6.out); have hc7 := Lib.hid (hB.cell H7.out)
        have h4' : W2.heap.size ≤ W''.heap.size := Nat.le_trans h4 hB.size
        clear hB H2 H3 H5 H6 H7 h4
        have k1 : W''.cell? ⟨w1.heap.size, 0, none⟩ = some (.int .i64 n) := (hE.out.cell l1).trans HPA.out.1
        have k2 : W''.cell? ⟨w1.heap.size, 1, none⟩ = some (.slice a xs.length c) := (hE.out.cell l1).trans HPA.out.2
        gi_wp2_with fail
        refine (callsFW (answers_c n n (.slice a xs.length c) xs j W'' (HV.out.ext (HXA.out.trans hE.out)) HP.out hj4)).mono ?_
        rintro e W3 ⟨rfl, x3⟩
        have E3 := Lib.hid (hE.out.trans x3); have M3 := Lib.hid (hM.out.ext x3)
        have d5 := (x3.cell (by omega)).trans hc5.out
        have d6 := Lib.hid ((x3.cell (by omega)).trans hc6.out); have d7 := Lib.hid ((x3.cell (by omega)).trans hc7.out); have D5 := Lib.hid d5
        have h4'' : W2.heap.size ≤ W3.heap.size := Nat.le_trans h4' x3.size
        have HK3 : Hid (KeepsFrom W2.heap.size W'' W3) := KeepsFrom.of_ext x3
        clear k1 k2 x3 hE hM hc5 hc6 hc7 h4'
        obtain ⟨A, hA⟩ : ∃ A, A = answersOf xs j := ⟨_, rfl⟩
        rw [← hA]
        have HA := Lib.hid hA; clear hA
        have hl := M3.out.lookup Tryz.underlying123 (show (zeroValue 4).run Tryz.prog W3 = .ok (.bool false) W3 from rfl) A
        rw [H2'.out A] at hl
        cases hs : seenTo xs D j A
        · rw [hs, if_neg (by decide)] at hl
          have HS := Lib.hid hs; clear hs
          obtain ⟨W4, hu, m4, hx4, hs4, ho4⟩ := M3.out.update Tryz.underlying123 A (.bool true)
          have M4 := Lib.hid m4; have HX4 := Lib.hid hx4; have HS4 := Lib.hid hs4; have HO4 := Lib.hid ho4
          clear m4 hx4 hs4 ho4
          gi_wp2
          have hs4 := HS4.out
          refine ⟨HK3.out.trans ⟨by omega, fun k o hk ho _ => (HO4.out k (by omega)).trans ho⟩, fun i hi hf => ?_, ⟨_, M4.out, fun a => ?_⟩, HX4.out _ E3.out (by omega), by omega, ?_, ?_, ?_⟩
          · by_cases h : i = j
            · subst h; rw [← HA.out]; exact HS.out
            · exact H1.out i (by omega) hf
          · unfold put
            rw [seenTo_next HP1.out, ← HA.out]
            by_cases h : a = A
            · subst h; simp
            · rw [if_neg (by omega), H2'.out a, beq_eq_false_iff_ne.2 (fun e => h e.symm), Bool.or_false]
          · rw [← D5.out]; unfold World.cell?; rw [HO4.out (w1.heap.size + 1 + 1) (by omega)]
          · rw [← d6.out]; unfold World.cell?; rw [HO4.out Wc.heap.size (by omega)]
          · rw [← d7.out]; unfold World.cell?; rw [HO4.out (Wc.heap.size + 1) (by omega)]
        · rw [hs, if_pos rfl] at hl
          have HS := Lib.hid hs; clear hs
          have X3 := Lib.hid (HXA.out.trans E3.out)
          obtain ⟨c0, f0, -⟩ := V0.out.ext X3.out
          gi_wp2
          exact ⟨HK3.out.trans (KeepsFrom.setCell' _ _ _ _), rfl, tellsTo_false hj HP1.out (by rw [← HA.out]; exact HS.out), ((V0.out.ext X3.out).set _).cell, (HX0.out.trans X3.out).setCell (Nat.le_refl _) _⟩
      case hdone =>
        rintro D' W' hD ⟨h1, h2, h3, h4, h5⟩ hDD
        have H1 := Lib.hid h1; have X3 := Lib.hid (HXA.out.trans h3); have HD := Lib.hid hDD; clear h1 h2 h3 h5 hDD
        obtain ⟨c0, f0, -⟩ := V0.out.ext X3.out
        go_wp2
        exact leave_bool rfl rfl ((V0.out.ext X3.out).set _).cell (((Marks.nil _ _).cons (n := W2.heap.size) (fun k hk => by obtain ⟨_, hk, _⟩ := hk; cases hk) hD (Nat.le_trans (((HX0.out.trans HXA.out).trans HX2.out).size) hD) HD.out).setCell _ _) ((HX0.out.trans X3.out).setCell (Nat.le_refl _) _) (tellsTo_true H1.out).symm
      case hstop =>
        rintro D' cc W' hD ⟨rfl, h2, h3, h4⟩ hDD
        go_wp2
        exact leave_bool rfl rfl h3 ((Marks.nil _ _).cons (n := W2.heap.size) (fun k hk => by obtain ⟨_, hk, _⟩ := hk; cases hk) hD (Nat.le_trans (((HX0.out.trans HXA.out).trans HX2.out).size) hD) hDD) h4 h2.symm
end Go.Proofs.YtkmfmhckpfomeaaGreatDoor
