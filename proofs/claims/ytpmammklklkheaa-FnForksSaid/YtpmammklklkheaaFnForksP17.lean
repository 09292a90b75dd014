/- What the walk of FnForks rests on, part 17: plain facts, and contracts of the functions that it reaches. Each states its own condition. -/
import Derived.Test.YtpmammklklkheaaFnForksP16
import Derived.Test.YtpmammklklkheaaFnForksP12
import Derived.Test.YtpmammklklkheaaFnForksP5
import Derived.Test.YtpmammklklkheaaFnForksP8
/- The forks of a tree, and the number that leaves and forks tell: the reference's functions compute the plain ones. The condition: the list has at most 2^20 numbers. -/
namespace Go.Proofs.Ytpmammklklkheaa
open Go.RowKit
open BigFrame

set_option maxRecDepth 100000 in
set_option maxHeartbeats 2000000 in
theorem l3Fork_c (v : Value) (g : List Int) (l : Nat) (w : World) (hv : Rd w v g) (ht : IsTree g) (hl : deg g l = 1) (ll : l < g.length) :
    Calls Try.prog 49 #[v, .int .i64 l] w fun e w' => (∃ r : Int, e = .returned (.int .i64 r) ∧ IsFork g l r) ∧ w = w' := by
  have HV := Lib.hid hv; have HT := Lib.hid ht; have HG := Lib.hid ht.graph
  have hn := ht.graph.le
  have HLL := Lib.hid ll
  have ll11 : l ≤ 11 := by omega
  have HA : Hid (At g l 0 (-1) l) := .inl ⟨rfl, rfl, rfl, hl⟩
  obtain ⟨a, c, rfl⟩ := hv.form
  obtain ⟨L, hL⟩ : ∃ L, L = g.length := ⟨_, rfl⟩
  have HL := Lib.hid hL
  have HV' : Hid (Rd w (.slice a L c) g) := by rw [hL]; exact HV.out
  rw [← hL] at hn ⊢
  have HD1 : Hid (deg g l ≤ 2) := by unfold Hid; omega
  clear hv ht hl ll hL HV
  go_enter Try.func49, Try.ntmps49
  go_wp2
  go_loop [5, 6] (fun la at_ => ∃ (k x : Nat) (last : Int), la = .int .i64 last ∧ at_ = .int .i64 x ∧ x ≤ 11 ∧ Hid (At g l k last x) ∧ Hid (deg g x ≤ 2)) (fun _ at_ => 12 - dd g (intOf at_).toNat l)
  case atStart => exact ⟨0, l, -1, rfl, rfl, ll11, HA, HD1⟩
  case round =>
    clear HA HD1 ll11
    obtain ⟨k, x, last, rfl, rfl, hx11, HA, HDx⟩ := hrel
    have hxl : x < L := by rw [HL.out]; exact HA.out.lt HG.out HLL.out
    obtain ⟨b, o, rfl, -, -, hc⟩ := HV'.out.atI hxl
    have c1 := hc w (Ext.refl w)
    rw [HG.out.row x (by rw [← HL.out]; exact hxl)] at c1
    have hg4 := HG.out.small x
    have HC1 := Lib.hid c1
    clear hc
    go_wp2
    go_loop [7, 8] (fun nx q => ∃ (j : Nat) (z : Int), j ≤ L ∧ q = .int .i64 j ∧ nx = .int .i64 z ∧ Hid (Nx g last x j z)) (fun _ q => L - (intOf q).toNat)
    case atStart => exact ⟨0, -1, Nat.zero_le _, rfl, rfl, .inl ⟨rfl, fun j hj => absurd hj (Nat.not_lt_zero j)⟩⟩
    case round =>
      obtain ⟨j, z, hj, rfl, rfl, HZ⟩ := hrel
      by_cases hlt : j < L
      · have HB := Lib.hid (l1Bit_c (gN g x) j (by omega) (by omega) w)
        obtain ⟨T, hT⟩ : ∃ T, (gN g x).testBit j = T := ⟨_, rfl⟩
        have HTT := Lib.hid hT
        rw [hT] at HB
        clear hT
        cases T
        · have HN : Hid (Nx g last x (j + 1) z) := HZ.out.skip fun hc => by have := hc.1; unfold adj at this; rw [HTT.out] at this; cases this
          go_wp2_with (go_at_call 48; refine HB.out.mono ?_; rintro e w' ⟨rfl, rfl⟩)
          go_round
          case rel => exact ⟨j + 1, z, by omega, by go_num, rfl, HN⟩
          case measure => simp [intOf]; omega
        · by_cases hjl : (j : Int) = last
          · have f1 : ((j : Int) != last) = false := by rw [hjl]; simp
            have HN : Hid (Nx g last x (j + 1) z) := HZ.out.skip fun hc => hc.2 hjl
            clear hjl
            go_wp2_with (go_at_call 48; refine HB.out.mono ?_; rintro e w' ⟨rfl, rfl⟩)
            go_round
            case rel => exact ⟨j + 1, z, by omega, by go_num, rfl, HN⟩
            case measure => simp [intOf]; omega
          · have f1 : ((j : Int) != last) = true := by simpa using hjl
            have HN : Hid (Nx g last x (j + 1) (j : Int)) := .inr ⟨j, rfl, by omega, HTT.out, hjl⟩
            clear hjl
            go_wp2_with (go_at_call 48; refine HB.out.mono ?_; rintro e w' ⟨rfl, rfl⟩)
            go_round
            case rel => exact ⟨j + 1, j, by omega, by go_num, rfl, HN⟩
            case measure => simp [intOf]; omega
      · have HZ' : Hid (Nx g last x g.length z) := by rw [← HL.out]; rw [show L = j from by omega]; exact HZ
        by_cases hz : z = -1
        · subst hz
          have HR : Hid (IsFork g l (-1)) := .inr ⟨rfl, HA.out.stop HG.out HDx.out (HZ'.out.none HG.out)⟩
          go_wp2
          go_ret
          exact ⟨⟨-1, rfl, HR.out⟩, rfl⟩
        · obtain ⟨y, rfl, hyl, hc⟩ : ∃ y : Nat, z = y ∧ y < g.length ∧ Cand g last x y := by
            rcases HZ'.out with ⟨h1, -⟩ | h
            · exact absurd h1 hz
            · exact h
          have hleg := HA.out.next HG.out HDx.out hc
          have d1 := leg_dist HT.out hleg
          have d2 := HT.out.fin y l hyl HLL.out
          have hyL : y < L := by rw [HL.out]; exact hyl
          have HAy : Hid (At g l (k + 1) x y) := At.step hleg
          have HDg := Lib.hid (l3Degree_c (.slice (some ⟨b, o, none⟩) L c) g y w HV'.out HG.out hyl)
          have HM : Hid (12 - dd g y l < 12 - dd g x l) := by unfold Hid; omega
          clear hz hyl hc hleg d1 d2 HC1 c1
          by_cases h3 : 2 < deg g y
          · have HR : Hid (IsFork g l y) := .inl ⟨y, rfl, by omega, HAy.out.fork h3⟩
            generalize deg g y = dy at h3 HDg
            go_wp2_with (go_at_call 90; refine HDg.out.mono ?_; rintro e w' ⟨rfl, rfl⟩)
            go_ret
            exact ⟨⟨y, rfl, HR.out⟩, rfl⟩
          · have HDy : Hid (deg g y ≤ 2) := by unfold Hid; omega
            obtain ⟨dy, hdy⟩ : ∃ dy, dy = deg g y := ⟨_, rfl⟩
            rw [← hdy] at h3 HDg
            clear hdy
            go_wp2_with (go_at_call 90; refine HDg.out.mono ?_; rintro e w' ⟨rfl, rfl⟩)
            go_round
            case rel => exact ⟨k + 1, y, x, rfl, rfl, by omega, HAy, HDy⟩
            case measure => exact HM.out

set_option maxHeartbeats 1000000 in
theorem treeForksS_c (v : Value) (g : List Int) (w : World) (hv : Rd w v g) (hm : g.length ≤ 1048576) :
    Calls Try.prog 14 #[v] w fun e w' => e = .returned (pairV (treeForks g)) ∧ Ext w w' := by
  have HV := Lib.hid hv
  have HC := Lib.hid (treeLeavesS_c v g w hv hm)
  obtain ⟨a, c, rfl⟩ := hv.form
  clear hv
  cases h0 : treeB g
  · rw [show treeLeaves g = (0, false) from by unfold treeLeaves; rw [h0]; rfl] at HC
    rw [show treeForks g = (0, false) from by unfold treeForks; rw [h0]; rfl]
    clear h0
    have HM := Lib.hid hm
    clear hm
    go_enter Try.func14, Try.ntmps14
    go_wp2_with fail
    refine HC.out.mono ?_
    rintro e w1 ⟨rfl, x1⟩
    unfold pairV
    have X1 := Lib.hid x1; clear x1
    go_wp2
    go_loop [6, 7] (fun s i => ∃ k : Nat, k ≤ g.length ∧ i = .int .i64 k ∧ s = .int .i64 0) (fun _ i => g.length - (intOf i).toNat)
    case atStart => exact ⟨0, Nat.zero_le _, rfl, rfl⟩
    case round =>
      obtain ⟨k, hk, rfl, rfl⟩ := hrel
      by_cases hlt : k < g.length
      · go_wp2
        go_ret2
        exact ⟨rfl, X1.out⟩
      · go_wp2
        go_ret2
        exact ⟨rfl, X1.out⟩
  · have HT := Lib.hid (tree_of h0)
    have HG := Lib.hid (tree_of h0).graph
    have hl := HG.out.le
    have hb := leaves_small HG.out
    have HE : Hid (treeForks g = (((forksN g : Nat) : Int), true)) := by unfold treeForks Hid; rw [h0]; rfl
    rw [show treeLeaves g = (((leavesN g : Nat) : Int), true) from by unfold treeLeaves; rw [h0]; rfl] at HC
    rw [HE.out]
    clear h0 HE
    obtain ⟨L, hL⟩ : ∃ L, L = g.length := ⟨_, rfl⟩
    have HL := Lib.hid hL
    rw [← hL] at hl HC ⊢
    have HV' : Hid (Rd w (.slice a L c) g) := by rw [hL]; exact HV.out
    clear hL HV hm
    obtain ⟨S, hS⟩ : ∃ S, S = leavesN g := ⟨_, rfl⟩
    have HS := Lib.hid hS
    rw [← hS] at hb HC
    clear hS
    go_enter Try.func14, Try.ntmps14
    go_wp2_with fail
    refine HC.out.mono ?_
    rintro e w1 ⟨rfl, x1⟩
    unfold pairV
    have X1 := Lib.hid x1; clear x1
    have R1 := Lib.hid (HV'.out.ext X1.out)
    go_wp2
    go_loop [6, 7] (fun s i => ∃ k X : Nat, k ≤ L ∧ i = .int .i64 k ∧ s = .int .i64 X ∧ X ≤ 4095 ∧ Hid (ForksTo g k X)) (fun _ i => L - (intOf i).toNat)
    case atStart => exact ⟨0, 0, Nat.zero_le _, rfl, rfl, by omega, ForksTo.start g⟩
    case round =>
      obtain ⟨k, X, hk, rfl, rfl, hX, HX⟩ := hrel
      by_cases hlt : k < L
      · have HB := Lib.hid (l1Bit_c S k (by omega) (by omega) w1)
        obtain ⟨T, hT⟩ : ∃ T, S.testBit k = T := ⟨_, rfl⟩
        have HTT := Lib.hid hT
        rw [hT] at HB
        clear hT
        cases T
        · have HN : Hid (ForksTo g (k + 1) X) := HX.out.skip (no_leaf HG.out (by rw [← HS.out]; exact HTT.out))
          go_wp2_with (go_at_call 48; refine HB.out.mono ?_; rintro e w' ⟨rfl, rfl⟩)
          go_round
          case rel => exact ⟨k + 1, X, by omega, by go_num, rfl, hX, HN⟩
          case measure => simp [intOf]; omega
        · have hlf := leaves_bit.1 (show (leavesN g).testBit k = true by rw [← HS.out]; exact HTT.out)
          have HF := Lib.hid (l3Fork_c (.slice a L c) g k w1 R1.out HT.out hlf.2 hlf.1)
          clear hlf
          go_wp2_with (go_at_call 48; refine HB.out.mono ?_; rintro e w' ⟨rfl, rfl⟩)
          refine HF.out.mono ?_
          rintro e w' ⟨⟨r, rfl, hr⟩, rfl⟩
          rcases hr with ⟨f, rfl, hf11, hf⟩ | ⟨rfl, hn⟩
          · obtain ⟨p, hp, hp1, hp2, hp3⟩ := pow_var f (by omega)
            have hp4 : p ≤ 2048 := by rw [← hp]; exact (Nat.pow_le_pow_right (by omega) hf11 : 2 ^ f ≤ 2 ^ 11)
            have e0 : min f 64 = f := by omega
            have e1 := bits_or X p (by omega) (by omega)
            have hb4 : bor X p ≤ 4095 := by have := bor_lt (x := X) (y := p) (n := 12) (by omega) (by omega); omega
            have HN : Hid (ForksTo g (k + 1) (bor X p)) := by rw [← hp]; exact HX.out.more HG.out hf
            generalize bor X p = Y at e1 hb4 HN
            clear hp hf
            go_wp2
            go_round
            case rel => exact ⟨k + 1, Y, by omega, by go_num, rfl, hb4, HN⟩
            case measure => simp [intOf]; omega
          · have HN : Hid (ForksTo g (k + 1) X) := HX.out.skip hn
            clear hn
            go_wp2
            go_round
            case rel => exact ⟨k + 1, X, by omega, by go_num, rfl, hX, HN⟩
            case measure => simp [intOf]; omega
      · obtain rfl : k = L := by omega
        have HE : Hid (X = forksN g) := ForksTo.end HG.out (by rw [← HL.out]; exact HX.out)
        go_wp2
        go_ret2
        exact ⟨ret_pair' (by rw [HE.out]), X1.out⟩

set_option maxHeartbeats 1000000 in
theorem treeResS_c (v : Value) (g : List Int) (w : World) (hv : Rd w v g) (hm : g.length ≤ 1048576) :
    Calls Try.prog 30 #[v] w fun e w' => e = .returned (pairV (treeRes g)) ∧ Ext w w' := by
  have HV := Lib.hid hv
  have HC := Lib.hid (treeLeavesS_c v g w hv hm)
  have HF := Lib.hid fun u (h : Ext w u) => treeForksS_c v g u (hv.ext h) hm
  obtain ⟨a, c, rfl⟩ := hv.form
  clear hv
  cases h0 : treeB g
  · rw [show treeLeaves g = (0, false) from by unfold treeLeaves; rw [h0]; rfl] at HC
    rw [show treeRes g = (0, false) from by unfold treeRes; rw [h0]; rfl]
    clear h0 hm
    go_enter Try.func30, Try.ntmps30
    go_wp2_with fail
    refine HC.out.mono ?_
    rintro e w1 ⟨rfl, x1⟩
    unfold pairV
    have X1 := Lib.hid x1; clear x1
    go_wp2
    go_ret2
    exact ⟨rfl, X1.out⟩
  · have HG := Lib.hid (tree_of h0).graph
    have hl := HG.out.le
    have hb := leaves_small HG.out
    have hf4 := forks_small HG.out
    have hfew := forks_few HG.out
    have HE : Hid (treeRes g = (((treeNum g : Nat) : Int), true)) := by unfold treeRes Hid; rw [h0]; rfl
    rw [show treeLeaves g = (((leavesN g : Nat) : Int), true) from by unfold treeLeaves; rw [h0]; rfl] at HC
    rw [show treeForks g = (((forksN g : Nat) : Int), true) from by unfold treeForks; rw [h0]; rfl] at HF
    rw [HE.out]
    have HN : Hid (treeNum g = if g.length = 1 then 0 else if forksN g = 0 then 1 else cnt (leavesN g) - cnt (forksN g)) := rfl
    clear h0 HE hm
    obtain ⟨L, hL⟩ : ∃ L, L = g.length := ⟨_, rfl⟩
    rw [← hL] at hl HC HF HN ⊢
    clear hL
    obtain ⟨S, hS⟩ : ∃ S, S = leavesN g := ⟨_, rfl⟩
    rw [← hS] at hb HC HN hfew
    clear hS
    obtain ⟨F, hF⟩ : ∃ F, F = forksN g := ⟨_, rfl⟩
    rw [← hF] at hf4 HF HN hfew
    clear hF
    by_cases h1 : L = 1
    · have f1 : ((L : Int) == 1) = true := by simp [h1]
      have HN' : Hid (treeNum g = 0) := by rw [HN.out, if_pos h1]; rfl
      clear h1
      go_enter Try.func30, Try.ntmps30
      go_wp2_with fail
      refine HC.out.mono ?_
      rintro e w1 ⟨rfl, x1⟩
      unfold pairV
      have X1 := Lib.hid x1; clear x1
      go_wp2
      go_ret2
      exact ⟨ret_pair' (by rw [HN'.out]; rfl), X1.out⟩
    · have f1 : ((L : Int) == 1) = false := by simp; omega
      rw [if_neg h1] at HN
      clear h1
      by_cases h2 : F = 0
      · have f2 : ((F : Int) == 0) = true := by simp [h2]
        have HN' : Hid (treeNum g = 1) := by rw [HN.out, if_pos h2]; rfl
        clear h2
        go_enter Try.func30, Try.ntmps30
        go_wp2_with fail
        refine HC.out.mono ?_
        rintro e w1 ⟨rfl, x1⟩
        unfold pairV
        have X1 := Lib.hid x1; clear x1
        go_wp2_with fail
        refine (HF.out w1 X1.out).mono ?_
        rintro e w2 ⟨rfl, x2⟩
        unfold pairV
        have X2 := Lib.hid (X1.out.trans x2); clear x2
        go_wp2
        go_ret2
        exact ⟨ret_pair' (by rw [HN'.out]; rfl), X2.out⟩
      · have f2 : ((F : Int) == 0) = false := by simp; omega
        rw [if_neg h2] at HN
        clear h2
        have HCS := Lib.hid fun u => l1Count_c S (by omega) u
        have HCF := Lib.hid fun u => l1Count_c F (by omega) u
        obtain ⟨A, hA⟩ : ∃ A, A = cnt S := ⟨_, rfl⟩
        obtain ⟨B, hB⟩ : ∃ B, B = cnt F := ⟨_, rfl⟩
        have hA12 : A ≤ 12 := by rw [hA]; exact cnt_le S
        rw [← hA] at HN HCS hfew
        rw [← hB] at HN HCF hfew
        clear hA hB
        obtain ⟨D, hD, hDD⟩ : ∃ D : Nat, (A : Int) - (B : Int) = (D : Int) ∧ D = A - B := ⟨A - B, by omega, rfl⟩
        have HN' : Hid (treeNum g = D) := by rw [HN.out, hDD]; rfl
        clear hDD hfew
        go_enter Try.func30, Try.ntmps30
        go_wp2_with fail
        refine HC.out.mono ?_
        rintro e w1 ⟨rfl, x1⟩
        unfold pairV
        have X1 := Lib.hid x1; clear x1
        go_wp2_with fail
        refine (HF.out w1 X1.out).mono ?_
        rintro e w2 ⟨rfl, x2⟩
        unfold pairV
        have X2 := Lib.hid (X1.out.trans x2); clear x2
        go_wp2_with fail
        refine (HCS.out w2).mono ?_
        rintro e w' ⟨rfl, rfl⟩
        go_wp2_with fail
        refine (HCF.out w2).mono ?_
        rintro e w' ⟨rfl, rfl⟩
        go_wp2
        go_ret2
        exact ⟨ret_pair' (by rw [HN'.out]), X2.out⟩
end Go.Proofs.Ytpmammklklkheaa

/- The forks of a tree, and the number that leaves and forks tell: the program's functions compute the plain ones. The condition: the list has at most 2^20 numbers, each below 2^63. -/
namespace Go.Proofs.Ytpmammklklkheaa
open Go.RowKit
open BigFrame
attribute [local go_sem] Oper.semAt_some

theorem leave_fork {fn : Func} {p : Tmp} {r : Int} {g : List Int} {l : Nat} {w W : World} {tmps : Array Value} {ds : List Deferred} (hr : fn.results = #[.tmp p])
    (hp : tmps.getD p undef = .int .i64 r) (hm : Marks w.heap.size W ds) (hx : Ext w W) (hf : IsFork g l r) :
    LeavesInM Fence.wide 0 Try.prog fn tmps (fun e w' => (∃ r : Int, e = .returned (.int .i64 r) ∧ IsFork g l r) ∧ Ext w w') ds .returning W := by
  refine leaves_marks (B := w.heap.size) (.int .i64 r) _ _ hm fun W' hW' => ⟨?_, ⟨r, rfl, hf⟩, hx.book (Nat.le_refl _) hW'⟩
  rw [← hp]
  simp [results, hr]
/-- The node that the loop over a set has seen last, below y; x for none. -/
def lastOf (X x y m : Nat) : Nat := if X.testBit m && decide (m < y) then m else x

set_option maxRecDepth 100000 in
set_option maxHeartbeats 4000000 in
theorem forkOf_c (v : Value) (g : List Int) (l : Nat) (w : World) (hv : Rd w v g) (ht : IsTree g) (hl1 : deg g l = 1) (ll : l < g.length) :
    Calls Try.prog 88 #[v, .int .i64 l] w fun e w' => (∃ r : Int, e = .returned (.int .i64 r) ∧ IsFork g l r) ∧ Ext w w' := by
  obtain ⟨a, c, rfl⟩ := hv.form
  have hl := ht.graph.le
  have HT := Lib.hid ht; have HG := Lib.hid ht.graph; have HLL := Lib.hid ll
  have HA : Hid (At g l 0 (-1) l) := .inl ⟨rfl, rfl, rfl, hl1⟩
  have ll11 : l ≤ 11 := by omega
  obtain ⟨W, hW⟩ : ∃ W, W = w.alloc (.cells #[.int .i64 l] 3) := ⟨_, rfl⟩
  have hx0 : Ext w W := by rw [hW]; exact (Ext.refl _).alloc _
  have v0 : Var W w.heap.size (.int .i64 l) := by rw [hW]; exact Var.new _ _ _
  have HW := Lib.hid hW; have HX0 := Lib.hid hx0; have V0 := Lib.hid v0; have HV := Lib.hid hv
  clear hW hx0 v0 hv ht hl1 ll
  refine calls_marks Try.func88 rfl ?_
  simp only [Try.ntmps88, List.size_toArray, List.length_cons, List.length_nil, Nat.reduceAdd, Nat.reduceSub, Array.replicate_succ, Array.replicate_zero, List.push_toArray, List.append_toArray, List.nil_append, List.cons_append]
  go_wp2
  rw [← HW.out]
  refine wp_loop_marks [5, 7, 8, 10, 11, 12, 13, 14, 15, 16, 17, 18, 19, 20, 21, 22, 23, 24, 25, 26, 27, 28, 29, 30]
    (fun u ds wr => ∃ (k x S : Nat) (last : Int), u 5 = .int .i64 S ∧ S < 2 ^ g.length ∧ x ≤ 11 ∧ Been g l k S ∧ At g l k last x ∧ Var wr w.heap.size (.int .i64 x) ∧ Ext w wr ∧ Marks w.heap.size wr ds)
    (fun u _ => 4097 - (intOf (u 5)).toNat) ⟨0, l, 0, -1, rfl, Nat.two_pow_pos _, ll11, Been.start g l, HA.out, V0.out, HX0.out, Marks.nil _ _⟩ ?_
  clear HA V0 HX0 HW ll11
  rintro u ds w2 ⟨k, x, S, last, hu5, hS, hx11, hb, ha, hvx, hxx, hmk⟩ K HK
  simp only [fillFrom, List.contains_cons, List.contains_nil, Nat.reduceBEq, Nat.reduceAdd, Bool.or_false, Bool.or_true, if_true, if_false, Bool.false_eq_true, hu5] at ⊢
  have HU := Lib.hid hu5; have HB := Lib.hid hb; have HA := Lib.hid ha; have HVX := Lib.hid hvx; have HX := Lib.hid hxx; have HM := Lib.hid hmk
  have hS4 : S ≤ 4095 := by have h2 := pow_le_12 hl; omega
  have HSN := Lib.hid hS
  have hxl := ha.lt HG.out HLL.out
  have c5 := hvx.cell
  have HDg := Lib.hid (degree_c (.slice a g.length c) g x w2 (HV.out.ext hxx) HG.out hxl)
  clear hu5 hb ha hvx hxx hmk hS
  by_cases h3 : deg g x < 3
  · have hd2 : Hid (deg g x ≤ 2) := by unfold Hid; omega
    obtain ⟨b, o, rfl, -, -, hc⟩ := HV.out.atI hxl
    have c1 := hc w2 HX.out
    rw [HG.out.row x hxl] at c1
    have hg4 := HG.out.small x
    clear hc
    obtain ⟨p, hp, hp1, hp2, hp3⟩ := pow_var x (by omega)
    have hp4 : p ≤ 2048 := by rw [← hp]; exact (Nat.pow_le_pow_right (by omega) hx11 : 2 ^ x ≤ 2 ^ 11)
    have e0 : min x 64 = x := by omega
    have e1 := bits_or S p (by omega) (by omega)
    have hb4 : bor S p ≤ 4095 := by have := bor_lt (x := S) (y := p) (n := 12) (by omega) (by omega); omega
    have e2 := bits_andNot (gN g x) (bor S p) (by omega) (by omega)
    have hX4 := without_le (gN g x) (bor S p) hg4
    have HXN : Hid (without (gN g x) (bor S p) < 2 ^ g.length) := without_lt (HG.out.lt x)
    have HSB : Hid (bor S p < 2 ^ g.length) := bor_lt HSN.out (by rw [← hp]; exact Nat.pow_lt_pow_right (by omega) hxl)
    have HGR : Hid (S + 1 ≤ bor S p) := by rw [← hp]; exact bor_grow (HB.out.fresh HT.out HA.out)
    have HCD : Hid (∀ z, (without (gN g x) (bor S p)).testBit z = true ↔ Cand g last x z) := by rw [← hp]; exact HB.out.cand HT.out HA.out HLL.out
    have HST : Hid (∀ m, Leg g l k x m → Been g l (k + 1) (bor S p)) := by rw [← hp]; exact fun m hm => HB.out.step HG.out hm
    clear hp
    generalize bor S p = S2 at *
    generalize without (gN g x) S2 = X at *
    generalize gN g x = gx at *
    obtain ⟨dx, hdx⟩ : ∃ dx, dx = deg g x := ⟨_, rfl⟩
    rw [← hdx] at h3 HDg
    clear hdx
    by_cases hz : X = 0
    · subst hz
      have HR : Hid (IsFork g l (-1)) := .inr ⟨rfl, HA.out.stop HG.out hd2.out fun z hc => by
        have := (HCD.out z).2 hc
        rw [Nat.zero_testBit] at this
        cases this⟩
      go_wp2_with (go_at_call 91; refine HDg.out.mono ?_; rintro e w' ⟨rfl, rfl⟩)
      exact leave_fork rfl rfl HM.out HX.out HR.out
    · have hz' : ((X : Int) == 0) = false := by simp; omega
      obtain ⟨m, hmX⟩ := bits_some hX4 (fun e => hz ((cnt_zero hX4).1 e))
      have hleg := HA.out.next HG.out hd2.out ((HCD.out m).1 hmX)
      have HON : Hid (∀ z, X.testBit z = true ↔ z = m) := fun z => by
        constructor
        · intro h
          exact (leg_det HG.out (HA.out.next HG.out hd2.out ((HCD.out z).1 h)) hleg).2
        · rintro rfl; exact hmX
      have hml := (adj_lt HG.out (leg_adj hleg)).2
      have HBN := Lib.hid (HST.out m hleg)
      have HAN : Hid (At g l (k + 1) x m) := At.step hleg
      clear hz hmX hleg
      obtain ⟨W2, hW2⟩ : ∃ V, V = w2.alloc (.cells #[.int .i64 X] 3) := ⟨_, rfl⟩
      have hx2 : Ext w2 W2 := by rw [hW2]; exact (Ext.refl _).alloc _
      have hv2 : Var W2 w2.heap.size (.int .i64 X) := by rw [hW2]; exact Var.new _ _ _
      have hs2 : W2.heap.size = w2.heap.size + 1 := by rw [hW2]; simp
      have HW2 := Lib.hid hW2; have HX2 := Lib.hid hx2; have HV2 := Lib.hid hv2
      clear hW2 hx2 hv2
      go_wp2_with (first
        | (go_at_call 91; refine HDg.out.mono ?_; rintro e w' ⟨rfl, rfl⟩)
        | (go_at_call 79; refine (nodes_c _ _).mono ?_; rintro e w' ⟨rfl, rfl⟩))
      rw [← HW2.out]
      have hl6 : w.heap.size < w2.heap.size := HVX.out.lt
      refine wp_range (nodes_iter w2.heap.size X g.length HXN.out (by omega)) rfl nodes_enters rfl
        (fun y W' => Var W' w.heap.size (.int .i64 (lastOf X x y m : Nat)) ∧ Var W' w2.heap.size (.int .i64 X) ∧ Ext w W' ∧ Marks w.heap.size W' ds ∧ W2.heap.size ≤ W'.heap.size)
        (fun _ _ => False)
        ?hI ?hIx ?hKi ?h0 ?hskip ?hround ?hdone ?hstop
      case hI =>
        rintro j W' W'' hB ⟨h1, h2, h3, h4, h5⟩
        exact ⟨h1.book hB (by omega), h2.book hB (by omega), h3.book (by omega) hB, h4.book hB (fun k hk => by have := HM.out.lt k hk; omega), Nat.le_trans h5 hB.size⟩
      case hIx => exact fun _ _ _ _ h => h
      case hKi =>
        rintro j W' ⟨_, h2, _⟩
        exact h2.cell
      case h0 =>
        refine ⟨?_, HV2.out, HX.out.trans HX2.out, HM.out.ext HX2.out, Nat.le_refl _⟩
        have e : lastOf X x 0 m = x := by unfold lastOf; rw [decide_eq_false (Nat.not_lt_zero m), Bool.and_false]; rfl
        rw [e]
        exact HVX.out.ext HX2.out
      case hskip =>
        rintro j W' hj hp ⟨h1, h2⟩
        refine ⟨?_, h2⟩
        have hjm : j ≠ m := fun e => by rw [e, (HON.out m).2 rfl] at hp; cases hp
        have e : lastOf X x (j + 1) m = lastOf X x j m := by
          unfold lastOf
          rw [show decide (m < j + 1) = decide (m < j) from by rw [Bool.eq_iff_iff, decide_eq_true_iff, decide_eq_true_iff]; omega]
        rw [e]; exact h1
      case hround =>
        rintro l' j W' hj hp ⟨h1, h2, h3', h4, h5⟩ hsz
        gi_wp2
        refine ⟨KeepsFrom.refl _ _, fun W'' hB => ?_⟩
        have H1 : Hid (Var W'' w.heap.size (.int .i64 (lastOf X x j m : Nat))) := h1.book hB (by omega)
        have H2 : Hid (Var W'' w2.heap.size (.int .i64 X)) := h2.book hB (by omega)
        have H3 : Hid (Ext w W'') := h3'.book (by omega) hB
        have H4 : Hid (Marks w.heap.size W'' ds) := h4.book hB (fun k hk => by have := HM.out.lt k hk; omega)
        have l9 : W2.heap.size ≤ W''.heap.size := Nat.le_trans h5 hB.size
        have hjm := (HON.out j).1 hp
        have HE : Hid (lastOf X x (j + 1) m = j) := by
          subst hjm
          unfold lastOf Hid
          rw [(HON.out j).2 rfl, decide_eq_true (by omega)]; rfl
        clear h1 h2 h3' h4 h5 hB hp hsz hjm
        have c5' := H1.out.cell
        have f5' := H1.out.frozen
        gi_wp2
        refine ⟨KeepsFrom.setCell' _ _ _ _, ?_, H2.out.other (by omega) _, H3.out.setCell (by show w.heap.size ≤ w.heap.size; omega) _, H4.out.setCell _ _, ?_⟩
        · rw [HE.out]; exact H1.out.set _
        · simp; omega
      case hdone =>
        rintro D' W' hD ⟨h1, h2, h3', h4, h5⟩ hDD
        have e : lastOf X x g.length m = m := by unfold lastOf; rw [(HON.out m).2 rfl, decide_eq_true hml]; rfl
        rw [e] at h1
        have H1 := Lib.hid h1; have H3 := Lib.hid h3'; have H4 := Lib.hid h4; have HDD := Lib.hid hDD
        clear h1 h2 h3' h4 hDD e
        go_wp2
        refine HK.out _ _ _ rfl ⟨k + 1, m, S2, x, rfl, HSB.out, by omega, HBN.out, HAN.out, H1.out, H3.out, H4.out.cons (n := W2.heap.size) (fun k hk => by have := HM.out.lt k hk; omega) hD (Nat.le_trans (HX.out.trans HX2.out).size hD) HDD.out⟩ ?_
        have hgr := HGR.out
        simp [intOf, HU.out]
        omega
      case hstop => exact fun _ _ _ _ h _ => h.elim
  · have HR : Hid (IsFork g l x) := .inl ⟨x, rfl, hx11, HA.out.fork (by omega)⟩
    generalize deg g x = dx at h3 HDg
    go_wp2_with (go_at_call 91; refine HDg.out.mono ?_; rintro e w' ⟨rfl, rfl⟩)
    exact leave_fork rfl rfl HM.out HX.out HR.out
set_option maxRecDepth 100000 in
set_option maxHeartbeats 4000000 in
theorem forks_c (v : Value) (g : List Int) (w : World) (hv : Rd w v g) (ht : IsTree g) :
    Calls Try.prog 46 #[v] w fun e w' => e = .returned (.int .i64 (forksN g : Nat)) ∧ Ext w w' := by
  obtain ⟨a, c, rfl⟩ := hv.form
  have hl := ht.graph.le
  have HT := Lib.hid ht; have HG := Lib.hid ht.graph
  obtain ⟨W, hW, hx, hsz, c0, c1, f0, f1⟩ := two_new w (.slice a g.length c) (.int .i64 0) 47 3
  have HW := Lib.hid hW; have HX := Lib.hid hx; have HV := Lib.hid hv
  have VG : Hid (Var W w.heap.size (.slice a g.length c)) := ⟨c0, f0, by omega⟩
  have VS : Hid (Var W (w.heap.size + 1) (.int .i64 0)) := ⟨c1, f1, by omega⟩
  have HLV := Lib.hid (leaves_c (.slice a g.length c) g W (hv.ext hx) ht.graph)
  have hs4 := leaves_small ht.graph
  have HSN : Hid (leavesN g < 2 ^ g.length) := mask_lt _ _
  have HLB : Hid (∀ x, (leavesN g).testBit x = true ↔ x < g.length ∧ deg g x = 1) := fun x => leaves_bit
  have HNL : Hid (∀ x, (leavesN g).testBit x = false → ∀ f, ¬ Fork g x f) := fun x h => no_leaf HG.out h
  generalize leavesN g = S at *
  have c0' := c0
  have l1 : w.heap.size + 2 = W.heap.size := by omega
  rw [hW] at c0'
  obtain ⟨W2, hW2⟩ : ∃ V, V = W.alloc (.cells #[.int .i64 S] 3) := ⟨_, rfl⟩
  have hx2 : Ext W W2 := by rw [hW2]; exact (Ext.refl _).alloc _
  have hv2 : Var W2 W.heap.size (.int .i64 S) := by rw [hW2]; exact Var.new _ _ _
  have hs2 : W2.heap.size = W.heap.size + 1 := by rw [hW2]; simp
  have HW2 := Lib.hid hW2; have HX2 := Lib.hid hx2; have HV2 := Lib.hid hv2
  clear hv ht hW hx hsz c0 c1 f0 f1 hW2 hx2 hv2
  refine calls_marks Try.func46 rfl ?_
  simp only [Try.ntmps46, List.size_toArray, List.length_cons, List.length_nil, Nat.reduceAdd, Nat.reduceSub, Array.replicate_succ, Array.replicate_zero, List.push_toArray, List.append_toArray, List.nil_append, List.cons_append]
  go_wp2_with fail
  rw [← HW.out]
  refine HLV.out.mono ?_
  rintro e w' ⟨rfl, rfl⟩
  go_wp2_with (go_at_call 79; refine (nodes_c _ _).mono ?_; rintro e w' ⟨rfl, rfl⟩)
  rw [← HW2.out]
  refine wp_range (nodes_iter W.heap.size S g.length HSN.out (by omega)) rfl nodes_enters rfl
    (fun y W' => ∃ X, X ≤ 4095 ∧ ForksTo g y X ∧ Var W' w.heap.size (.slice a g.length c) ∧ Var W' (w.heap.size + 1) (.int .i64 (X : Nat)) ∧ Var W' W.heap.size (.int .i64 S) ∧ Ext w W' ∧ W2.heap.size ≤ W'.heap.size)
    (fun _ _ => False)
    ?hI ?hIx ?hKi ?h0 ?hskip ?hround ?hdone ?hstop
  case hI =>
    rintro j W' W'' hB ⟨X, h1, h2, h3, h4, h5, h7, h8⟩
    exact ⟨X, h1, h2, h3.book hB (by omega), h4.book hB (by omega), h5.book hB (by omega), h7.book (by omega) hB, Nat.le_trans h8 hB.size⟩
  case hIx => exact fun _ _ _ _ h => h
  case hKi =>
    rintro j W' ⟨X, _, _, _, _, h5, _⟩
    exact h5.cell
  case h0 => exact ⟨0, by omega, ForksTo.start g, VG.out.ext HX2.out, VS.out.ext HX2.out, HV2.out, HX.out.trans HX2.out, Nat.le_refl _⟩
  case hskip =>
    rintro j W' hj hp ⟨X, h1, h2, h3⟩
    exact ⟨X, h1, h2.skip (HNL.out j hp), h3⟩
  case hround =>
    rintro l j W' hj hp ⟨X, hX4, h2, h3, h4, h5, h7, h8⟩ hsz
    gi_wp2
    refine ⟨KeepsFrom.refl _ _, fun W'' hB => ?_⟩
    have HFT := Lib.hid h2
    have V1 : Hid (Var W'' w.heap.size (.slice a g.length c)) := h3.book hB (by omega)
    have V2 : Hid (Var W'' (w.heap.size + 1) (.int .i64 X)) := h4.book hB (by omega)
    have V3 : Hid (Var W'' W.heap.size (.int .i64 S)) := h5.book hB (by omega)
    have X2 : Hid (Ext w W'') := h7.book (by omega) hB
    have l9 : W2.heap.size ≤ W''.heap.size := Nat.le_trans h8 hB.size
    have hlf := (HLB.out j).1 hp
    have HF := Lib.hid (forkOf_c (.slice a g.length c) g j W'' (HV.out.ext X2.out) HT.out hlf.2 hlf.1)
    clear h2 h3 h4 h5 h7 h8 hB hp hsz hlf
    have k1 := V1.out.cell
    gi_wp2_with fail
    refine (callsFW HF.out).mono ?_
    rintro e w3 ⟨⟨r, rfl, hr⟩, x3⟩
    have U1 := Lib.hid (V1.out.ext x3); have U2 := Lib.hid (V2.out.ext x3); have U3 := Lib.hid (V3.out.ext x3); have Y2 := Lib.hid (X2.out.trans x3)
    have YK : Hid (KeepsFrom W2.heap.size W'' w3) := KeepsFrom.of_ext x3
    have l10 : W2.heap.size ≤ w3.heap.size := Nat.le_trans l9 x3.size
    clear x3 V1 V2 V3 X2 k1 HF
    rcases hr with ⟨f, rfl, hf11, hf⟩ | ⟨rfl, hn⟩
    · obtain ⟨p, hp, hp1, hp2, hp3⟩ := pow_var f (by omega)
      have hp4 : p ≤ 2048 := by rw [← hp]; exact (Nat.pow_le_pow_right (by omega) hf11 : 2 ^ f ≤ 2 ^ 11)
      have e0 : min f 64 = f := by omega
      have e1 := bits_or X p (by omega) (by omega)
      have hb4 : bor X p ≤ 4095 := by have := bor_lt (x := X) (y := p) (n := 12) (by omega) (by omega); omega
      have HN : Hid (ForksTo g (j + 1) (bor X p)) := by rw [← hp]; exact HFT.out.more HG.out hf
      generalize bor X p = Y at e1 hb4 HN
      have k2 := fun u => (U2.out.ext (clip_ext w3 u)).cell
      clear hp hf
      gi_wp2
      refine wpIn_quiet_tail (ro := some l) (C := fun w' => ∃ u, w' = clip w3 u) 4 (by kernel_rfl) (by kernel_rfl) (by kernel_rfl) ⟨_, (clip_of (Ext.refl w3).drew).symm⟩ ?_
      simp only [List.take_succ_cons, List.take_zero, List.drop_succ_cons, List.drop_zero]
      repeat (go_big_quiet_step (fail))
      refine wpQuiet_nil ?_
      rintro _ ⟨u', rfl⟩
      have xc := Lib.hid (clip_ext w3 u')
      obtain ⟨q1, q2, -⟩ := U2.out.ext xc.out
      gi_wp2
      refine ⟨YK.out.trans ((KeepsFrom.of_ext xc.out).trans (KeepsFrom.setCell' _ _ _ _)), Y, hb4, HN.out, (U1.out.ext xc.out).other (by omega) _, (U2.out.ext xc.out).set _, (U3.out.ext xc.out).other (by omega) _, (Y2.out.trans xc.out).setCell (by show w.heap.size ≤ w.heap.size + 1; omega) _, ?_⟩
      have := xc.out.size; simp; omega
    · have HN : Hid (ForksTo g (j + 1) X) := HFT.out.skip hn
      clear hn
      gi_wp2
      exact ⟨YK.out, X, hX4, HN.out, U1.out, U2.out, U3.out, Y2.out, l10⟩
  case hdone =>
    rintro D' W' hD ⟨X, hX4, h2, h3, h4, h5, h7, h8⟩ hDD
    have HE : Hid (X = forksN g) := ForksTo.end HG.out h2
    have k1 := h4.cell
    have H7 := Lib.hid h7
    have HM : Hid (Marks w.heap.size W' [{ target := .collected D', args := #[] }]) := (Marks.nil _ _).cons (n := W2.heap.size) (fun k hk => by simp at hk) hD (by omega) hDD
    clear h2 h3 h4 h5 h7 hDD
    go_wp2
    exact leave_tmp rfl rfl HM.out H7.out (by rw [HE.out]; rfl)
  case hstop => exact fun _ _ _ _ h _ => h.elim

set_option maxHeartbeats 1000000 in
theorem treeForksI_c (v : Value) (g : List Int) (w : World) (hv : Rd w v g) (hm : g.length ≤ 1048576) (hb : ∀ i, getI g i < 9223372036854775808) :
    Calls Try.prog 13 #[v] w fun e w' => e = .returned (pairV (treeForks g)) ∧ Ext w w' := by
  have HV := Lib.hid hv
  have HC := Lib.hid (treeInI_c v g w hv hm hb)
  obtain ⟨a, c, rfl⟩ := hv.form
  clear hv hm hb
  cases h0 : treeB g
  · rw [h0] at HC
    rw [show treeForks g = (0, false) from by unfold treeForks; rw [h0]; rfl]
    clear h0
    go_enter Try.func13, Try.ntmps13
    go_wp2_with fail
    refine HC.out.mono ?_
    rintro e w1 ⟨rfl, x1⟩
    have X1 := Lib.hid x1; clear x1
    go_wp2
    go_ret2
    exact ⟨rfl, X1.out⟩
  · rw [h0] at HC
    have HT := Lib.hid (tree_of h0)
    rw [show treeForks g = (((forksN g : Nat) : Int), true) from by unfold treeForks; rw [h0]; rfl]
    clear h0
    go_enter Try.func13, Try.ntmps13
    go_wp2_with fail
    refine HC.out.mono ?_
    rintro e w1 ⟨rfl, x1⟩
    have X1 := Lib.hid x1; clear x1
    go_wp2_with fail
    refine (forks_c _ g w1 (HV.out.ext X1.out) HT.out).mono ?_
    rintro e w2 ⟨rfl, x2⟩
    have X2 := Lib.hid (X1.out.trans x2); clear x2
    go_wp2
    go_ret2
    exact ⟨rfl, X2.out⟩

set_option maxHeartbeats 1000000 in
theorem treeResI_c (v : Value) (g : List Int) (w : World) (hv : Rd w v g) (hm : g.length ≤ 1048576) (hb : ∀ i, getI g i < 9223372036854775808) :
    Calls Try.prog 29 #[v] w fun e w' => e = .returned (pairV (treeRes g)) ∧ Ext w w' := by
  have HV := Lib.hid hv
  have HC := Lib.hid (treeInI_c v g w hv hm hb)
  obtain ⟨a, c, rfl⟩ := hv.form
  clear hv hm hb
  cases h0 : treeB g
  · rw [h0] at HC
    rw [show treeRes g = (0, false) from by unfold treeRes; rw [h0]; rfl]
    clear h0
    go_enter Try.func29, Try.ntmps29
    go_wp2_with fail
    refine HC.out.mono ?_
    rintro e w1 ⟨rfl, x1⟩
    have X1 := Lib.hid x1; clear x1
    go_wp2
    go_ret2
    exact ⟨rfl, X1.out⟩
  · rw [h0] at HC
    have HT := Lib.hid (tree_of h0)
    have HE : Hid (treeRes g = (((treeNum g : Nat) : Int), true)) := by unfold treeRes Hid; rw [h0]; rfl
    have hl := HT.out.graph.le
    have hb := leaves_small HT.out.graph
    have hf4 := forks_small HT.out.graph
    have hfew := forks_few HT.out.graph
    rw [HE.out]
    have HN : Hid (treeNum g = if g.length = 1 then 0 else if forksN g = 0 then 1 else cnt (leavesN g) - cnt (forksN g)) := rfl
    clear h0 HE
    have HFK := Lib.hid fun u (h : Ext w u) => forks_c (.slice a g.length c) g u (HV.out.ext h) HT.out
    have HLV := Lib.hid fun u (h : Ext w u) => leaves_c (.slice a g.length c) g u (HV.out.ext h) HT.out.graph
    obtain ⟨L, hL⟩ : ∃ L, L = g.length := ⟨_, rfl⟩
    rw [← hL] at hl HC HFK HLV HN ⊢
    clear hL
    obtain ⟨S, hS⟩ : ∃ S, S = leavesN g := ⟨_, rfl⟩
    rw [← hS] at hb HLV HN hfew
    clear hS
    obtain ⟨F, hF⟩ : ∃ F, F = forksN g := ⟨_, rfl⟩
    rw [← hF] at hf4 HFK HN hfew
    clear hF
    by_cases h1 : L = 1
    · have f1 : ((L : Int) == 1) = true := by simp [h1]
      have HN' : Hid (treeNum g = 0) := by rw [HN.out, if_pos h1]; rfl
      clear h1
      go_enter Try.func29, Try.ntmps29
      go_wp2_with fail
      refine HC.out.mono ?_
      rintro e w1 ⟨rfl, x1⟩
      have X1 := Lib.hid x1; clear x1
      go_wp2
      go_ret2
      exact ⟨ret_pair' (by rw [HN'.out]; rfl), X1.out⟩
    · have f1 : ((L : Int) == 1) = false := by simp; omega
      rw [if_neg h1] at HN
      clear h1
      by_cases h2 : F = 0
      · have f2 : ((F : Int) == 0) = true := by simp [h2]
        have HN' : Hid (treeNum g = 1) := by rw [HN.out, if_pos h2]; rfl
        clear h2
        go_enter Try.func29, Try.ntmps29
        go_wp2_with fail
        refine HC.out.mono ?_
        rintro e w1 ⟨rfl, x1⟩
        have X1 := Lib.hid x1; clear x1
        go_wp2_with fail
        refine (HFK.out w1 X1.out).mono ?_
        rintro e w2 ⟨rfl, x2⟩
        have X2 := Lib.hid (X1.out.trans x2); clear x2
        go_wp2
        go_ret2
        exact ⟨ret_pair' (by rw [HN'.out]; rfl), X2.out⟩
      · have f2 : ((F : Int) == 0) = false := by simp; omega
        rw [if_neg h2] at HN
        clear h2
        have HCS := Lib.hid fun u => sizeC S hb u
        have HCF := Lib.hid fun u => sizeC F hf4 u
        obtain ⟨A, hA⟩ : ∃ A, A = cnt S := ⟨_, rfl⟩
        obtain ⟨B, hB⟩ : ∃ B, B = cnt F := ⟨_, rfl⟩
        have hA12 : A ≤ 12 := by rw [hA]; exact cnt_le S
        rw [← hA] at HN HCS hfew
        rw [← hB] at HN HCF hfew
        clear hA hB
        obtain ⟨D, hD, hDD⟩ : ∃ D : Nat, (A : Int) - (B : Int) = (D : Int) ∧ D = A - B := ⟨A - B, by omega, rfl⟩
        have HN' : Hid (treeNum g = D) := by rw [HN.out, hDD]; rfl
        clear hDD hfew
        go_enter Try.func29, Try.ntmps29
        go_wp2_with fail
        refine HC.out.mono ?_
        rintro e w1 ⟨rfl, x1⟩
        have X1 := Lib.hid x1; clear x1
        go_wp2_with fail
        refine (HFK.out w1 X1.out).mono ?_
        rintro e w2 ⟨rfl, x2⟩
        have X2 := Lib.hid (X1.out.trans x2); clear x2
        go_wp2_with fail
        refine (HLV.out w2 X2.out).mono ?_
        rintro e w' ⟨rfl, rfl⟩
        go_wp2_with fail
        refine (HCS.out w2).mono ?_
        rintro e w' ⟨rfl, rfl⟩
        go_wp2_with fail
        refine (HFK.out w2 X2.out).mono ?_
        rintro e w3 ⟨rfl, x3⟩
        have X3 := Lib.hid (X2.out.trans x3); clear x3
        go_wp2_with fail
        refine (HCF.out w3).mono ?_
        rintro e w' ⟨rfl, rfl⟩
        go_wp2
        go_ret2
        exact ⟨ret_pair' (by rw [HN'.out]), X3.out⟩
end Go.Proofs.Ytpmammklklkheaa

/- The law's own count of nodes; the draw of two sets. The condition of each is typed. -/
namespace Go.Proofs.Ytpmammklklkheaa
open Go.RowKit
open BigFrame

theorem cntTo_all {s : Nat} (h : s ≤ 4095) : ∀ k, 12 ≤ k → cntTo s k = cnt s
  | 0, hk => by omega
  | k + 1, hk => by
    by_cases e : k + 1 = 12
    · rw [e]; rfl
    · rw [cntTo_succ, cntTo_all h k (by omega), testBit_out (show s < 2 ^ 12 by omega) (by omega)]; rfl

set_option maxHeartbeats 1000000 in
theorem sizeL_c (s : Nat) (hs : s ≤ 4095) (w : World) :
    Calls Try.prog 16 #[.int .i64 s] w fun e w' => e = .returned (.int .i64 (cnt s : Nat)) ∧ w = w' := by
  have HC := Lib.hid (cntTo_all hs 30 (by omega))
  go_enter Try.func16, Try.ntmps16
  go_wp2
  go_loop [3, 4] (fun n i => ∃ k D : Nat, k ≤ 30 ∧ i = .int .i64 k ∧ n = .int .i64 D ∧ D ≤ k ∧ Hid (D = cntTo s k)) (fun _ i => 30 - (intOf i).toNat)
  case atStart => exact ⟨0, 0, Nat.zero_le _, rfl, rfl, Nat.le_refl _, rfl⟩
  case round =>
    obtain ⟨k, D, hk, rfl, rfl, hD, HD⟩ := hrel
    by_cases hlt : k < 30
    · have e0 : min k 64 = k := by omega
      have e1 := div_pow_nat s k
      have e2 : bits .and .i64 (shr s k : Int) 1 = (band (shr s k) 1 : Int) := bits_and (shr s k) 1 (Nat.lt_of_le_of_lt (Nat.shiftRight_le _ _) (by omega)) (by omega)
      have e3 := bit_shift s k
      have HN := Lib.hid (cntTo_succ s k)
      cases hb : s.testBit k
      · rw [hb] at e3 HN
        clear hb
        go_wp2
        go_round
        case rel => exact ⟨k + 1, D, by omega, by go_num, by go_num, by omega, by unfold Hid; rw [HN.out, HD.out]; rfl⟩
        case measure => simp [intOf]; omega
      · rw [hb] at e3 HN
        clear hb
        go_wp2
        go_round
        case rel => exact ⟨k + 1, D + 1, by omega, by go_num, by go_num, by omega, by unfold Hid; rw [HN.out, HD.out]; rfl⟩
        case measure => simp [intOf]; omega
    · obtain rfl : k = 30 := by omega
      go_wp2
      go_ret
      exact ⟨ret_int (by rw [HD.out, HC.out]), rfl⟩

theorem bxor_cnt_le (a b : Nat) : cnt (bxor a b) ≤ cnt a + cnt b := by
  unfold cnt
  have : ∀ l : List Nat, l.countP (fun i => (bxor a b).testBit i) ≤ l.countP (fun i => a.testBit i) + l.countP (fun i => b.testBit i) := by
    intro l
    induction l with
    | nil => simp
    | cons x l ih =>
      simp only [List.countP_cons, testBit_bxor] at ih ⊢
      cases a.testBit x <;> cases b.testBit x <;> simp <;> omega
  exact this _
theorem bxor_comm' (a b : Nat) : bxor a b = bxor b a := Nat.xor_comm a b
theorem bxor_eq_zero {a b : Nat} : bxor a b = 0 ↔ a = b := by
  constructor
  · intro e
    apply Nat.eq_of_testBit_eq
    intro j
    have := congrArg (fun z => Nat.testBit z j) e
    simp only [testBit_bxor, Nat.zero_testBit] at this
    revert this
    cases a.testBit j <;> cases b.testBit j <;> simp
  · rintro rfl
    exact Nat.xor_self a
end Go.Proofs.Ytpmammklklkheaa
