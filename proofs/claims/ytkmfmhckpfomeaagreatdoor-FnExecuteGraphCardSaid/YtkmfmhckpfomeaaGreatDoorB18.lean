/- What the walks of this seat rest on, one part: plain facts, and contracts of the functions that they reach. Each states its own condition. -/
import Derived.Test.YtkmfmhckpfomeaaGreatDoorB17
set_option linter.all false
set_option linter.unusedSimpArgs false
set_option linter.unusedVariables false
/- Trees, leaves: the program's functions compute the plain ones. The condition: the list has at most 2^20 numbers, each below 2^63. -/
namespace Go.Proofs.YtkmfmhckpfomeaaGreatDoor
open Go.RowKit
open BigFrame

set_option maxHeartbeats 1000000 in
theorem graphConnectedI_c (v : Value) (g : List Int) (w : World) (hv : Rd w v g) (hm : g.length ≤ 1048576) :
    Calls Tryz.prog 174 #[v] w fun e w' => e = .returned (.bool (conn g)) ∧ Ext w w' := by
  have HV := Lib.hid hv
  have HC := Lib.hid (graphInI_c v g w hv hm)
  obtain ⟨a, c, rfl⟩ := hv.form
  clear hv hm
  unfold conn
  cases h0 : graphIn g
  · rw [h0] at HC
    clear h0
    go_enter Tryz.func174, Tryz.ntmps174
    go_wp2_with fail
    refine HC.out.mono ?_
    rintro e w1 ⟨rfl, x1⟩
    have X1 := Lib.hid x1; clear x1
    go_wp2
    go_ret
    exact ⟨rfl, X1.out⟩
  · rw [h0] at HC
    have HG := Lib.hid (graphIn_iff.1 h0)
    have hpos := HG.out.pos
    have hl := HG.out.le
    clear h0
    go_enter Tryz.func174, Tryz.ntmps174
    go_wp2_with fail
    refine HC.out.mono ?_
    rintro e w1 ⟨rfl, x1⟩
    have X1 := Lib.hid x1; clear x1 HC
    go_wp2_with fail
    refine (distances_c _ g 0 w1 (HV.out.ext X1.out) HG.out hpos).mono ?_
    rintro e w2 ⟨v2, rfl, o2, x2⟩
    have hlen : (distOf g 0).length = g.length := distOf_length HG.out hpos
    obtain ⟨gb, cb, rfl⟩ := o2.slice (by omega)
    rw [hlen] at o2 ⊢
    have HD : Hid (∀ i, i < g.length → ∀ u, Ext w2 u → u.cell? ⟨gb, i, none⟩ = some (.int .i64 (dd g 0 i : Nat))) := fun i hi u hu => by
      obtain ⟨-, -, -, h1, h2, -⟩ := o2.at
      rw [hu.cell h1, h2 i hi, dist_get HG.out hpos hi]
    have X2 := Lib.hid (X1.out.trans x2)
    clear o2 x2 hlen
    obtain ⟨L, hL⟩ : ∃ L, L = g.length := ⟨_, rfl⟩
    have HL := Lib.hid hL
    rw [← hL] at hpos hl HD ⊢
    clear hL
    go_wp2
    go_loop [11] (fun i => ∃ k : Nat, k ≤ L ∧ i = .int .i64 k ∧ Hid (∀ j, j < k → dd g 0 j ≠ 12)) (fun i => L - (intOf i).toNat)
    case atStart => exact ⟨0, Nat.zero_le _, rfl, fun j hj => absurd hj (Nat.not_lt_zero j)⟩
    case round =>
      obtain ⟨k, hk, rfl, HJ⟩ := hrel
      by_cases hlt : k < L
      · have c1 := HD.out k hlt _ (Ext.refl _)
        by_cases hd : dd g 0 k = 12
        · have f1 : (((dd g 0 k : Nat) : Int) == 12) = true := by rw [hd]; rfl
          have HF := Lib.hid (conn_false (show k < g.length by rw [← HL.out]; exact hlt) hd)
          clear hd
          go_wp2
          go_ret
          exact ⟨ret_bool (by rw [HF.out]), X2.out⟩
        · have f1 : (((dd g 0 k : Nat) : Int) == 12) = false := by simp; omega
          have HN : Hid (∀ j, j < k + 1 → dd g 0 j ≠ 12) := fun j hj => by
            by_cases e : j = k
            · subst e; exact hd
            · exact HJ.out j (by omega)
          clear hd
          go_wp2
          go_round
          case rel => exact ⟨k + 1, by omega, by go_num, HN⟩
          case measure => simp [intOf]; omega
      · obtain rfl : k = L := by omega
        go_wp2
        go_ret
        exact ⟨ret_bool (by rw [conn_true (by rw [← HL.out]; exact HJ.out)]), X2.out⟩

/-- The ones of all numbers, as the program counts them. -/
def popTo (g : List Int) (k : Nat) : Nat := sumTo (fun i => pop64 (gN g i)) k
theorem popTo_small (g : List Int) : ∀ k, popTo g k ≤ 127 * k
  | 0 => Nat.le_refl _
  | k + 1 => by
    have h1 := popTo_small g k
    have h2 := pop64_le (gN g k)
    have e : popTo g (k + 1) = popTo g k + pop64 (gN g k) := rfl
    omega
theorem popTo_deg {g : List Int} (hg : IsGraph g) (k : Nat) : popTo g k = sumTo (deg g) k :=
  sumTo_congr fun x _ => pop64_small _ (by have := hg.small x; omega)

set_option maxHeartbeats 1000000 in
theorem treeInI_c (v : Value) (g : List Int) (w : World) (hv : Rd w v g) (hm : g.length ≤ 1048576) (hb : ∀ i, getI g i < 9223372036854775808) :
    Calls Tryz.prog 136 #[v] w fun e w' => e = .returned (.bool (treeB g)) ∧ Ext w w' := by
  have HV := Lib.hid hv
  have HC := Lib.hid (graphConnectedI_c v g w hv hm)
  have HM := Lib.hid hm; have HB := Lib.hid hb
  obtain ⟨a, c, rfl⟩ := hv.form
  obtain ⟨L, hL⟩ : ∃ L, L = g.length := ⟨_, rfl⟩
  have HL := Lib.hid hL
  rw [← hL] at HC HM ⊢
  have HV' : Hid (Rd w (.slice a L c) g) := by rw [hL]; exact HV.out
  clear hv hm hb hL HV
  have hLs : L ≤ 1048576 := HM.out
  go_enter Tryz.func136, Tryz.ntmps136
  go_wp2
  go_loop [3, 8] (fun n i => ∃ k : Nat, k ≤ L ∧ i = .int .i64 k ∧ n = .int .i64 (popTo g k : Nat)) (fun _ i => L - (intOf i).toNat)
  case atStart => exact ⟨0, Nat.zero_le _, rfl, rfl⟩
  case round =>
    obtain ⟨k, hk, rfl, rfl⟩ := hrel
    by_cases hlt : k < L
    · obtain ⟨b, o, rfl, -, -, hc⟩ := HV'.out.atI hlt
      have c1 := hc w (Ext.refl w)
      clear hc
      have hz63 := HB.out k
      have hmx : max (getI g k) 0 = ((gN g k : Nat) : Int) := by unfold gN; omega
      have hgs : gN g k < 2 ^ 63 := by unfold gN; omega
      have HS := Lib.hid (size_c (gN g k) hgs w)
      have HE : Hid (popTo g k + pop64 (gN g k) = popTo g (k + 1)) := rfl
      have h1 := popTo_small g k
      have h2 := pop64_le (gN g k)
      have h3 : popTo g k ≤ 133169152 := by omega
      clear hgs
      obtain ⟨D, hD⟩ : ∃ D, popTo g k = D := ⟨_, rfl⟩
      obtain ⟨q, hq⟩ : ∃ q, pop64 (gN g k) = q := ⟨_, rfl⟩
      rw [hD] at HE h1 h3 ⊢
      rw [hq] at HE HS h2
      clear hD hq
      generalize gN g k = y at hmx HS
      generalize getI g k = z at hmx c1 hz63
      clear hz63
      go_wp2_with (go_at_call 65; refine HS.out.mono ?_; rintro e w' ⟨rfl, rfl⟩)
      go_round
      case rel => exact ⟨k + 1, by omega, by go_num, by rw [← HE.out]; go_num⟩
      case measure => simp [intOf]; omega
    · obtain rfl : k = L := by omega
      cases h0 : conn g
      · rw [h0] at HC
        have HT : Hid (treeB g = false) := by unfold treeB Hid; unfold conn at h0; rw [h0]; rfl
        clear h0
        go_wp2_with fail
        refine HC.out.mono ?_
        rintro e w1 ⟨rfl, x1⟩
        have X1 := Lib.hid x1; clear x1
        go_wp2
        go_ret
        exact ⟨ret_bool HT.out.symm, X1.out⟩
      · rw [h0] at HC
        have h0' := h0
        unfold conn at h0'
        rw [Bool.and_eq_true] at h0'
        have hG := graphIn_iff.1 h0'.1
        have hl := hG.le
        have hpos := hG.pos
        have HT : Hid (treeB g = decide (sumTo (deg g) g.length + 2 = 2 * g.length)) := by unfold treeB Hid; unfold conn at h0; rw [h0]; rfl
        rw [← HL.out] at hl hpos HT
        obtain ⟨L2, hL2⟩ : ∃ L2 : Nat, (k : Int) - 1 = (L2 : Int) := ⟨k - 1, by omega⟩
        have HR : Hid (treeB g = (((popTo g k : Nat) : Int) == 2 * (L2 : Int))) := by
          unfold Hid
          rw [HT.out, popTo_deg hG, Bool.eq_iff_iff, decide_eq_true_iff, beq_iff_eq]
          omega
        obtain ⟨T, hT⟩ : ∃ T, (((popTo g k : Nat) : Int) == 2 * (L2 : Int)) = T := ⟨_, rfl⟩
        rw [hT] at HR
        have h1 := popTo_small g k
        clear h0 h0' hG HT
        generalize popTo g k = D at *
        go_wp2_with fail
        refine HC.out.mono ?_
        rintro e w1 ⟨rfl, x1⟩
        have X1 := Lib.hid x1; clear x1
        go_wp2
        go_ret
        exact ⟨ret_bool HR.out.symm, X1.out⟩

set_option maxHeartbeats 400000 in
theorem degree_c (v : Value) (g : List Int) (x : Nat) (w : World) (hv : Rd w v g) (hg : IsGraph g) (hx : x < g.length) :
    Calls Tryz.prog 176 #[v, .int .i64 x] w fun e w' => e = .returned (.int .i64 (deg g x : Nat)) ∧ w = w' := by
  obtain ⟨a, c, rfl⟩ := hv.form
  obtain ⟨b, o, rfl, -, -, hc⟩ := hv.atI hx
  have c1 := hc w (Ext.refl w)
  rw [hg.row x hx] at c1
  have h4 := hg.small x
  have HL := Lib.hid (sizeC (gN g x) h4 w)
  clear hc hv hg
  go_enter Tryz.func176, Tryz.ntmps176
  go_wp2_with (go_at_call 65; refine HL.out.mono ?_; rintro e w' ⟨rfl, rfl⟩)
  go_ret
  exact ⟨rfl, rfl⟩

set_option maxHeartbeats 1000000 in
theorem leaves_c (v : Value) (g : List Int) (w : World) (hv : Rd w v g) (hg : IsGraph g) :
    Calls Tryz.prog 138 #[v] w fun e w' => e = .returned (.int .i64 (leavesN g : Nat)) ∧ w = w' := by
  have HV := Lib.hid hv; have HG := Lib.hid hg
  have hl := hg.le
  obtain ⟨a, c, rfl⟩ := hv.form
  obtain ⟨L, hL⟩ : ∃ L, L = g.length := ⟨_, rfl⟩
  have HL := Lib.hid hL
  have HE : Hid (leavesN g = mask (leafB g) L) := by rw [hL]; rfl
  rw [← hL] at hl ⊢
  have HV' : Hid (Rd w (.slice a L c) g) := by rw [hL]; exact HV.out
  clear hL HV hv hg
  go_enter Tryz.func138, Tryz.ntmps138
  go_wp2
  go_loop [3, 7] (fun s i => ∃ k X : Nat, k ≤ L ∧ i = .int .i64 k ∧ s = .int .i64 X ∧ X ≤ 4095 ∧ Hid (X = mask (leafB g) k)) (fun _ i => L - (intOf i).toNat)
  case atStart => exact ⟨0, 0, Nat.zero_le _, rfl, rfl, by omega, rfl⟩
  case round =>
    obtain ⟨k, X, hk, rfl, rfl, hX, HX⟩ := hrel
    by_cases hlt : k < L
    · have HDg := Lib.hid (degree_c (.slice a L c) g k w HV'.out HG.out (by rw [← HL.out]; exact hlt))
      by_cases hd : deg g k = 1
      · have f1 : (((deg g k : Nat) : Int) == 1) = true := by rw [hd]; rfl
        obtain ⟨p, hp, hp1, hp2, hp3⟩ := pow_var k (by omega)
        have hp4 : p ≤ 2048 := by rw [← hp]; exact (Nat.pow_le_pow_right (by omega) (by omega) : 2 ^ k ≤ 2 ^ 11)
        have e0 : min k 64 = k := by omega
        have e1 := bits_or X p (by omega) (by omega)
        have hb4 : bor X p ≤ 4095 := by have := bor_lt (x := X) (y := p) (n := 12) (by omega) (by omega); omega
        have HN : Hid (bor X p = mask (leafB g) (k + 1)) := by unfold Hid; rw [HX.out, ← hp]; show _ = (if leafB g k then _ else _); rw [show leafB g k = true from by unfold leafB; rw [hd]; rfl]; rfl
        generalize bor X p = Y at e1 hb4 HN
        clear hd hp
        go_wp2_with (go_at_call 176; refine HDg.out.mono ?_; rintro e w' ⟨rfl, rfl⟩)
        go_round
        case rel => exact ⟨k + 1, Y, by omega, by go_num, rfl, hb4, HN⟩
        case measure => simp [intOf]; omega
      · have f1 : (((deg g k : Nat) : Int) == 1) = false := by simp; omega
        have HN : Hid (X = mask (leafB g) (k + 1)) := by unfold Hid; rw [HX.out]; show _ = (if leafB g k then _ else _); rw [show leafB g k = false from by unfold leafB; rw [decide_eq_false hd]]; rfl
        clear hd
        go_wp2_with (go_at_call 176; refine HDg.out.mono ?_; rintro e w' ⟨rfl, rfl⟩)
        go_round
        case rel => exact ⟨k + 1, X, by omega, by go_num, rfl, hX, HN⟩
        case measure => simp [intOf]; omega
    · obtain rfl : k = L := by omega
      go_wp2
      go_ret
      exact ⟨ret_int (by rw [HX.out, HE.out]), rfl⟩

end Go.Proofs.YtkmfmhckpfomeaaGreatDoor

/- The way from a leaf to its fork, as the programs go it: plain. No condition. -/
namespace Go.Proofs.YtkmfmhckpfomeaaGreatDoor

/-- What a search for the fork of l gives: the fork, or -1 for none. -/
def IsFork (g : List Int) (l : Nat) (r : Int) : Prop := (∃ f : Nat, r = f ∧ f ≤ 11 ∧ Fork g l f) ∨ (r = -1 ∧ ∀ f, ¬ Fork g l f)
/-- Where the search stands. -/
def At (g : List Int) (l k : Nat) (last : Int) (x : Nat) : Prop := (k = 0 ∧ last = -1 ∧ x = l ∧ deg g l = 1) ∨ ∃ j u : Nat, k = j + 1 ∧ last = u ∧ Leg g l j u x
/-- Where it may go on. -/
def Cand (g : List Int) (last : Int) (x z : Nat) : Prop := adj g x z ∧ (z : Int) ≠ last
theorem At.next {g : List Int} (hg : IsGraph g) {l k : Nat} {last : Int} {x z : Nat} (h : At g l k last x) (hd : deg g x ≤ 2) (hc : Cand g last x z) : Leg g l k x z := by
  obtain ⟨h1, h2⟩ := hc
  rcases h with ⟨rfl, rfl, rfl, h3⟩ | ⟨j, u, rfl, rfl, h3⟩
  · exact ⟨rfl, h3, h1⟩
  · have hzu : z ≠ u := fun e => h2 (by rw [e])
    refine ⟨⟨u, h3, hzu⟩, ?_, h1⟩
    have q1 := bits_drop (hg.small x) h1
    have q2 := bits_pos q1.2.1 ((q1.2.2 u).2 ⟨adj_symm hg (leg_adj h3), fun e => hzu e.symm⟩)
    unfold deg at hd ⊢
    omega
theorem At.stop {g : List Int} (hg : IsGraph g) {l k : Nat} {last : Int} {x : Nat} (h : At g l k last x) (hd : deg g x ≤ 2) (hn : ∀ z, ¬ Cand g last x z) (f : Nat) : ¬ Fork g l f := by
  rcases h with ⟨rfl, rfl, rfl, h3⟩ | ⟨j, u, rfl, rfl, h3⟩
  · obtain ⟨a, ha⟩ := bits_some (hg.small x) (show cnt (gN g x) ≠ 0 by unfold deg at h3; omega)
    exact absurd ⟨ha, by omega⟩ (hn a)
  · rintro ⟨k, u', h4, h5⟩
    have hx1 : deg g x < 2 := by
      rcases Nat.lt_or_ge (deg g x) 2 with h | h
      · exact h
      · obtain ⟨b, hb, hbu⟩ := bits_other (hg.small x) h (adj_symm hg (leg_adj h3))
        exact absurd ⟨hb, fun e => hbu (by omega)⟩ (hn b)
    rcases Nat.lt_trichotomy k j with h | h | h
    · obtain ⟨a, b, h6, h7⟩ := leg_less h3 h
      obtain ⟨-, rfl⟩ := leg_det hg h4 h6
      omega
    · subst h
      obtain ⟨-, rfl⟩ := leg_det hg h3 h4
      omega
    · obtain ⟨a, b, h6, h7⟩ := leg_less h4 h
      obtain ⟨-, rfl⟩ := leg_det hg h3 h6
      omega
theorem At.step {g : List Int} {l k x z : Nat} (h : Leg g l k x z) : At g l (k + 1) x z := .inr ⟨k, x, rfl, rfl, h⟩
theorem At.fork {g : List Int} {l k : Nat} {last : Int} {x : Nat} (h : At g l k last x) (hd : 3 ≤ deg g x) : Fork g l x := by
  rcases h with ⟨rfl, rfl, rfl, h3⟩ | ⟨j, u, rfl, rfl, h3⟩
  · omega
  · exact ⟨j, u, h3, hd⟩
theorem At.dist {g : List Int} (ht : IsTree g) {l k : Nat} {last : Int} {x : Nat} (h : At g l k last x) : dd g x l = k := by
  rcases h with ⟨rfl, rfl, rfl, h3⟩ | ⟨j, u, rfl, rfl, h3⟩
  · exact dd_self ht.graph x
  · exact (leg_dist ht h3).2
theorem At.lt {g : List Int} (hg : IsGraph g) {l k : Nat} {last : Int} {x : Nat} (h : At g l k last x) (hl : l < g.length) : x < g.length := by
  rcases h with ⟨rfl, rfl, rfl, h3⟩ | ⟨j, u, rfl, rfl, h3⟩
  · exact hl
  · exact (adj_lt hg (leg_adj h3)).2
theorem At.leaf {g : List Int} {l k : Nat} {last : Int} {x : Nat} (h : At g l k last x) : deg g l = 1 := by
  rcases h with ⟨rfl, rfl, rfl, h3⟩ | ⟨j, u, rfl, rfl, h3⟩
  · exact h3
  · exact leg_leaf h3
/-- The nodes that the search has left behind. -/
def Been (g : List Int) (l k S : Nat) : Prop := ∀ z, S.testBit z = true ↔ ∃ j m, j < k ∧ Leg g l j z m
theorem Been.start (g : List Int) (l : Nat) : Been g l 0 0 := fun z => by
  rw [Nat.zero_testBit]
  constructor
  · intro h; cases h
  · rintro ⟨j, m, h, -⟩; omega
/-- The neighbours that it has not left behind. -/
theorem Been.cand {g : List Int} (ht : IsTree g) {l k S : Nat} {last : Int} {x : Nat} (hb : Been g l k S) (h : At g l k last x) (ll : l < g.length) (z : Nat) : (without (gN g x) (bor S (2 ^ x))).testBit z = true ↔ Cand g last x z := by
  have hG := ht.graph
  rw [testBit_without, testBit_bor, Nat.testBit_two_pow, Bool.and_eq_true, Bool.not_eq_true', Bool.or_eq_false_iff, decide_eq_false_iff_not]
  constructor
  · rintro ⟨h1, h2, h3⟩
    refine ⟨h1, fun e => ?_⟩
    rcases h with ⟨rfl, rfl, rfl, h4⟩ | ⟨j, u, rfl, rfl, h4⟩
    · omega
    · obtain rfl : z = u := by omega
      rw [(hb z).2 ⟨j, x, by omega, h4⟩] at h2
      cases h2
  · rintro ⟨h1, h2⟩
    refine ⟨h1, ?_, fun e => adj_ne hG h1 e⟩
    cases hS : S.testBit z
    · rfl
    · exfalso
      obtain ⟨j, m, hj, hL⟩ := (hb z).1 hS
      have d1 := (leg_dist ht hL).1
      have d2 := h.dist ht
      have d3 := ht.step ll h1
      rcases h with ⟨rfl, rfl, rfl, h4⟩ | ⟨i, u, rfl, rfl, h4⟩
      · omega
      · obtain rfl : j = i := by omega
        obtain ⟨rfl, -⟩ := leg_det hG hL h4
        exact h2 rfl
theorem Been.step {g : List Int} {l k S x m : Nat} (hg : IsGraph g) (hb : Been g l k S) (h : Leg g l k x m) : Been g l (k + 1) (bor S (2 ^ x)) := fun z => by
  rw [testBit_bor, Bool.or_eq_true, hb z, Nat.testBit_two_pow, decide_eq_true_iff]
  constructor
  · rintro (⟨j, m', h1, h2⟩ | rfl)
    · exact ⟨j, m', by omega, h2⟩
    · exact ⟨k, m, by omega, h⟩
  · rintro ⟨j, m', h1, h2⟩
    by_cases e : j = k
    · subst e; exact .inr (leg_det hg h h2).1
    · exact .inl ⟨j, m', by omega, h2⟩
theorem Been.fresh {g : List Int} (ht : IsTree g) {l k S : Nat} {last : Int} {x : Nat} (hb : Been g l k S) (h : At g l k last x) : S.testBit x = false := by
  cases hS : S.testBit x
  · rfl
  · exfalso
    obtain ⟨j, m, hj, hL⟩ := (hb x).1 hS
    have d1 := (leg_dist ht hL).1
    have d2 := h.dist ht
    omega
theorem bor_grow {S x : Nat} (h : S.testBit x = false) : S + 1 ≤ bor S (2 ^ x) := by
  have h1 : S ≤ bor S (2 ^ x) := Nat.left_le_or
  have h2 : S ≠ bor S (2 ^ x) := fun e => by
    have : S.testBit x = (bor S (2 ^ x)).testBit x := by rw [← e]
    rw [testBit_bor, Nat.testBit_two_pow, h, decide_eq_true rfl] at this
    cases this
  omega
/-- The forks of the leaves below k. -/
def ForksTo (g : List Int) (k X : Nat) : Prop := ∀ f, X.testBit f = true ↔ ∃ l, l < k ∧ Fork g l f
theorem ForksTo.start (g : List Int) : ForksTo g 0 0 := fun f => by
  rw [Nat.zero_testBit]
  constructor
  · intro h; cases h
  · rintro ⟨l, h, -⟩; omega
theorem ForksTo.skip {g : List Int} {k X : Nat} (h : ForksTo g k X) (hn : ∀ f, ¬ Fork g k f) : ForksTo g (k + 1) X := fun f => by
  rw [h f]
  constructor
  · rintro ⟨l, h1, h2⟩; exact ⟨l, by omega, h2⟩
  · rintro ⟨l, h1, h2⟩
    by_cases e : l = k
    · subst e; exact absurd h2 (hn f)
    · exact ⟨l, by omega, h2⟩
theorem ForksTo.more {g : List Int} (hg : IsGraph g) {k X f : Nat} (h : ForksTo g k X) (hf : Fork g k f) : ForksTo g (k + 1) (bor X (2 ^ f)) := fun z => by
  rw [testBit_bor, Bool.or_eq_true, h z, Nat.testBit_two_pow, decide_eq_true_iff]
  constructor
  · rintro (⟨l, h1, h2⟩ | rfl)
    · exact ⟨l, by omega, h2⟩
    · exact ⟨k, by omega, hf⟩
  · rintro ⟨l, h1, h2⟩
    by_cases e : l = k
    · subst e; exact .inr (fork_uniq hg hf h2)
    · exact .inl ⟨l, by omega, h2⟩
theorem ForksTo.end {g : List Int} (hg : IsGraph g) {X : Nat} (h : ForksTo g g.length X) : X = forksN g := by
  apply Nat.eq_of_testBit_eq
  intro f
  rw [Bool.eq_iff_iff, h f, forks_bit hg]
  constructor
  · rintro ⟨l, -, h1⟩; exact ⟨l, h1⟩
  · rintro ⟨l, h1⟩
    exact ⟨l, (leaves_bit.1 (fork_leaf hg h1)).1, h1⟩
theorem no_leaf {g : List Int} (hg : IsGraph g) {l : Nat} (h : (leavesN g).testBit l = false) (f : Nat) : ¬ Fork g l f := fun hf => by
  rw [fork_leaf hg hf] at h
  cases h
/-- What the search for a next node has found among the nodes below q. -/
def Nx (g : List Int) (last : Int) (x q : Nat) (z : Int) : Prop := (z = -1 ∧ ∀ j, j < q → ¬ Cand g last x j) ∨ ∃ y : Nat, z = y ∧ y < q ∧ Cand g last x y
theorem Nx.skip {g : List Int} {last : Int} {x q : Nat} {z : Int} (h : Nx g last x q z) (hn : ¬ Cand g last x q) : Nx g last x (q + 1) z := by
  rcases h with ⟨h1, h2⟩ | ⟨y, h1, h2, h3⟩
  · exact .inl ⟨h1, fun j hj => by
      by_cases e : j = q
      · subst e; exact hn
      · exact h2 j (by omega)⟩
  · exact .inr ⟨y, h1, by omega, h3⟩
theorem Nx.none {g : List Int} (hg : IsGraph g) {last : Int} {x : Nat} (h : Nx g last x g.length (-1)) (z : Nat) : ¬ Cand g last x z := by
  rcases h with ⟨-, h2⟩ | ⟨y, h1, -, -⟩
  · intro hc
    exact h2 z (adj_lt hg hc.1).2 hc
  · omega
end Go.Proofs.YtkmfmhckpfomeaaGreatDoor

/- The forks of a tree, and the number that leaves and forks tell: the reference's functions compute the plain ones. The condition: the list has at most 2^20 numbers. -/
namespace Go.Proofs.YtkmfmhckpfomeaaGreatDoor
open Go.RowKit
open BigFrame

set_option maxRecDepth 100000 in
set_option maxHeartbeats 2000000 in
theorem l3Fork_c (v : Value) (g : List Int) (l : Nat) (w : World) (hv : Rd w v g) (ht : IsTree g) (hl : deg g l = 1) (ll : l < g.length) :
    Calls Tryz.prog 190 #[v, .int .i64 l] w fun e w' => (∃ r : Int, e = .returned (.int .i64 r) ∧ IsFork g l r) ∧ w = w' := by
  have HV := Lib.hid hv; have HT := Lib.hid ht; have HG := Lib.hid ht.graph
  have hn := ht.graph.le
  have HLL := Lib.hid ll
  have ll11 : l ≤ 11 := by omega
  have HA : Hid (At g l 0 (-1) l) := .inl ⟨rfl, rfl, rfl, hl⟩
  obtain ⟨a, c, rfl⟩ := hv.form
  obtain ⟨L, hL⟩ : ∃ L, L = g.length := ⟨_, rfl⟩
  have HL := Lib.hid hL
  have HV' : Hid (Rd w (.slice a L c) g) := by rw [hL]; exact HV.out
  rw [← hL] at hn ⊢
  have HD1 : Hid (deg g l ≤ 2) := by unfold Hid; omega
  clear hv ht hl ll hL HV
  go_enter Tryz.func190, Tryz.ntmps190
  go_wp2
  go_loop [5, 6] (fun la at_ => ∃ (k x : Nat) (last : Int), la = .int .i64 last ∧ at_ = .int .i64 x ∧ x ≤ 11 ∧ Hid (At g l k last x) ∧ Hid (deg g x ≤ 2)) (fun _ at_ => 12 - dd g (intOf at_).toNat l)
  case atStart => exact ⟨0, l, -1, rfl, rfl, ll11, HA, HD1⟩
  case round =>
    clear HA HD1 ll11
    obtain ⟨k, x, last, rfl, rfl, hx11, HA, HDx⟩ := hrel
    have hxl : x < L := by rw [HL.out]; exact HA.out.lt HG.out HLL.out
    obtain ⟨b, o, rfl, -, -, hc⟩ := HV'.out.atI hxl
    have c1 := hc w (Ext.refl w)
    rw [HG.out.row x (by rw [← HL.out]; exact hxl)] at c1
    have hg4 := HG.out.small x
    have HC1 := Lib.hid c1
    clear hc
    go_wp2
    go_loop [7, 8] (fun nx q => ∃ (j : Nat) (z : Int), j ≤ L ∧ q = .int .i64 j ∧ nx = .int .i64 z ∧ Hid (Nx g last x j z)) (fun _ q => L - (intOf q).toNat)
    case atStart => exact ⟨0, -1, Nat.zero_le _, rfl, rfl, .inl ⟨rfl, fun j hj => absurd hj (Nat.not_lt_zero j)⟩⟩
    case round =>
      obtain ⟨j, z, hj, rfl, rfl, HZ⟩ := hrel
      by_cases hlt : j < L
      · have HB := Lib.hid (l1Bit_c (gN g x) j (by omega) (by omega) w)
        obtain ⟨T, hT⟩ : ∃ T, (gN g x).testBit j = T := ⟨_, rfl⟩
        have HTT := Lib.hid hT
        rw [hT] at HB
        clear hT
        cases T
        · have HN : Hid (Nx g last x (j + 1) z) := HZ.out.skip fun hc => by have := hc.1; unfold adj at this; rw [HTT.out] at this; cases this
          go_wp2_with (go_at_call 152; refine HB.out.mono ?_; rintro e w' ⟨rfl, rfl⟩)
          go_round
          case rel => exact ⟨j + 1, z, by omega, by go_num, rfl, HN⟩
          case measure => simp [intOf]; omega
        · by_cases hjl : (j : Int) = last
          · have f1 : ((j : Int) != last) = false := by rw [hjl]; simp
            have HN : Hid (Nx g last x (j + 1) z) := HZ.out.skip fun hc => hc.2 hjl
            clear hjl
            go_wp2_with (go_at_call 152; refine HB.out.mono ?_; rintro e w' ⟨rfl, rfl⟩)
            go_round
            case rel => exact ⟨j + 1, z, by omega, by go_num, rfl, HN⟩
            case measure => simp [intOf]; omega
          · have f1 : ((j : Int) != last) = true := by simpa using hjl
            have HN : Hid (Nx g last x (j + 1) (j : Int)) := .inr ⟨j, rfl, by omega, HTT.out, hjl⟩
            clear hjl
            go_wp2_with (go_at_call 152; refine HB.out.mono ?_; rintro e w' ⟨rfl, rfl⟩)
            go_round
            case rel => exact ⟨j + 1, j, by omega, by go_num, rfl, HN⟩
            case measure => simp [intOf]; omega
      · have HZ' : Hid (Nx g last x g.length z) := by rw [← HL.out]; rw [show L = j from by omega]; exact HZ
        by_cases hz : z = -1
        · subst hz
          have HR : Hid (IsFork g l (-1)) := .inr ⟨rfl, HA.out.stop HG.out HDx.out (HZ'.out.none HG.out)⟩
          go_wp2
          go_ret
          exact ⟨⟨-1, rfl, HR.out⟩, rfl⟩
        · obtain ⟨y, rfl, hyl, hc⟩ : ∃ y : Nat, z = y ∧ y < g.length ∧ Cand g last x y := by
            rcases HZ'.out with ⟨h1, -⟩ | h
            · exact absurd h1 hz
            · exact h
          have hleg := HA.out.next HG.out HDx.out hc
          have d1 := leg_dist HT.out hleg
          have d2 := HT.out.fin y l hyl HLL.out
          have hyL : y < L := by rw [HL.out]; exact hyl
          have HAy : Hid (At g l (k + 1) x y) := At.step hleg
          have HDg := Lib.hid (l3Degree_c (.slice (some ⟨b, o, none⟩) L c) g y w HV'.out HG.out hyl)
          have HM : Hid (12 - dd g y l < 12 - dd g x l) := by unfold Hid; omega
          clear hz hyl hc hleg d1 d2 HC1 c1
          by_cases h3 : 2 < deg g y
          · have HR : Hid (IsFork g l y) := .inl ⟨y, rfl, by omega, HAy.out.fork h3⟩
            generalize deg g y = dy at h3 HDg
            go_wp2_with (go_at_call 189; refine HDg.out.mono ?_; rintro e w' ⟨rfl, rfl⟩)
            go_ret
            exact ⟨⟨y, rfl, HR.out⟩, rfl⟩
          · have HDy : Hid (deg g y ≤ 2) := by unfold Hid; omega
            obtain ⟨dy, hdy⟩ : ∃ dy, dy = deg g y := ⟨_, rfl⟩
            rw [← hdy] at h3 HDg
            clear hdy
            go_wp2_with (go_at_call 189; refine HDg.out.mono ?_; rintro e w' ⟨rfl, rfl⟩)
            go_round
            case rel => exact ⟨k + 1, y, x, rfl, rfl, by omega, HAy, HDy⟩
            case measure => exact HM.out

set_option maxHeartbeats 1000000 in
theorem treeForksS_c (v : Value) (g : List Int) (w : World) (hv : Rd w v g) (hm : g.length ≤ 1048576) :
    Calls Tryz.prog 155 #[v] w fun e w' => e = .returned (pairV (treeForks g)) ∧ Ext w w' := by
  have HV := Lib.hid hv
  have HC := Lib.hid (treeLeavesS_c v g w hv hm)
  obtain ⟨a, c, rfl⟩ := hv.form
  clear hv
  cases h0 : treeB g
  · rw [show treeLeaves g = (0, false) from by unfold treeLeaves; rw [h0]; rfl] at HC
    rw [show treeForks g = (0, false) from by unfold treeForks; rw [h0]; rfl]
    clear h0
    have HM := Lib.hid hm
    clear hm
    go_enter Tryz.func155, Tryz.ntmps155
    go_wp2_with fail
    refine HC.out.mono ?_
    rintro e w1 ⟨rfl, x1⟩
    unfold pairV
    have X1 := Lib.hid x1; clear x1
    go_wp2
    go_loop [6, 7] (fun s i => ∃ k : Nat, k ≤ g.length ∧ i = .int .i64 k ∧ s = .int .i64 0) (fun _ i => g.length - (intOf i).toNat)
    case atStart => exact ⟨0, Nat.zero_le _, rfl, rfl⟩
    case round =>
      obtain ⟨k, hk, rfl, rfl⟩ := hrel
      by_cases hlt : k < g.length
      · go_wp2
        go_ret2
        exact ⟨rfl, X1.out⟩
      · go_wp2
        go_ret2
        exact ⟨rfl, X1.out⟩
  · have HT := Lib.hid (tree_of h0)
    have HG := Lib.hid (tree_of h0).graph
    have hl := HG.out.le
    have hb := leaves_small HG.out
    have HE : Hid (treeForks g = (((forksN g : Nat) : Int), true)) := by unfold treeForks Hid; rw [h0]; rfl
    rw [show treeLeaves g = (((leavesN g : Nat) : Int), true) from by unfold treeLeaves; rw [h0]; rfl] at HC
    rw [HE.out]
    clear h0 HE
    obtain ⟨L, hL⟩ : ∃ L, L = g.length := ⟨_, rfl⟩
    have HL := Lib.hid hL
    rw [← hL] at hl HC ⊢
    have HV' : Hid (Rd w (.slice a L c) g) := by rw [hL]; exact HV.out
    clear hL HV hm
    obtain ⟨S, hS⟩ : ∃ S, S = leavesN g := ⟨_, rfl⟩
    have HS := Lib.hid hS
    rw [← hS] at hb HC
    clear hS
    go_enter Tryz.func155, Tryz.ntmps155
    go_wp2_with fail
    refine HC.out.mono ?_
    rintro e w1 ⟨rfl, x1⟩
    unfold pairV
    have X1 := Lib.hid x1; clear x1
    have R1 := Lib.hid (HV'.out.ext X1.out)
    go_wp2
    go_loop [6, 7] (fun s i => ∃ k X : Nat, k ≤ L ∧ i = .int .i64 k ∧ s = .int .i64 X ∧ X ≤ 4095 ∧ Hid (ForksTo g k X)) (fun _ i => L - (intOf i).toNat)
    case atStart => exact ⟨0, 0, Nat.zero_le _, rfl, rfl, by omega, ForksTo.start g⟩
    case round =>
      obtain ⟨k, X, hk, rfl, rfl, hX, HX⟩ := hrel
      by_cases hlt : k < L
      · have HB := Lib.hid (l1Bit_c S k (by omega) (by omega) w1)
        obtain ⟨T, hT⟩ : ∃ T, S.testBit k = T := ⟨_, rfl⟩
        have HTT := Lib.hid hT
        rw [hT] at HB
        clear hT
        cases T
        · have HN : Hid (ForksTo g (k + 1) X) := HX.out.skip (no_leaf HG.out (by rw [← HS.out]; exact HTT.out))
          go_wp2_with (go_at_call 152; refine HB.out.mono ?_; rintro e w' ⟨rfl, rfl⟩)
          go_round
          case rel => exact ⟨k + 1, X, by omega, by go_num, rfl, hX, HN⟩
          case measure => simp [intOf]; omega
        · have hlf := leaves_bit.1 (show (leavesN g).testBit k = true by rw [← HS.out]; exact HTT.out)
          have HF := Lib.hid (l3Fork_c (.slice a L c) g k w1 R1.out HT.out hlf.2 hlf.1)
          clear hlf
          go_wp2_with (go_at_call 152; refine HB.out.mono ?_; rintro e w' ⟨rfl, rfl⟩)
          refine HF.out.mono ?_
          rintro e w' ⟨⟨r, rfl, hr⟩, rfl⟩
          rcases hr with ⟨f, rfl, hf11, hf⟩ | ⟨rfl, hn⟩
          · obtain ⟨p, hp, hp1, hp2, hp3⟩ := pow_var f (by omega)
            have hp4 : p ≤ 2048 := by rw [← hp]; exact (Nat.pow_le_pow_right (by omega) hf11 : 2 ^ f ≤ 2 ^ 11)
            have e0 : min f 64 = f := by omega
            have e1 := bits_or X p (by omega) (by omega)
            have hb4 : bor X p ≤ 4095 := by have := bor_lt (x := X) (y := p) (n := 12) (by omega) (by omega); omega
            have HN : Hid (ForksTo g (k + 1) (bor X p)) := by rw [← hp]; exact HX.out.more HG.out hf
            generalize bor X p = Y at e1 hb4 HN
            clear hp hf
            go_wp2
            go_round
            case rel => exact ⟨k + 1, Y, by omega, by go_num, rfl, hb4, HN⟩
            case measure => simp [intOf]; omega
          · have HN : Hid (ForksTo g (k + 1) X) := HX.out.skip hn
            clear hn
            go_wp2
            go_round
            case rel => exact ⟨k + 1, X, by omega, by go_num, rfl, hX, HN⟩
            case measure => simp [intOf]; omega
      · obtain rfl : k = L := by omega
        have HE : Hid (X = forksN g) := ForksTo.end HG.out (by rw [← HL.out]; exact HX.out)
        go_wp2
        go_ret2
        exact ⟨ret_pair' (by rw [HE.out]), X1.out⟩

set_option maxHeartbeats 1000000 in
theorem treeResS_c (v : Value) (g : List Int) (w : World) (hv : Rd w v g) (hm : g.length ≤ 1048576) :
    Calls Tryz.prog 113 #[v] w fun e w' => e = .returned (pairV (treeRes g)) ∧ Ext w w' := by
  have HV := Lib.hid hv
  have HC := Lib.hid (treeLeavesS_c v g w hv hm)
  have HF := Lib.hid fun u (h : Ext w u) => treeForksS_c v g u (hv.ext h) hm
  obtain ⟨a, c, rfl⟩ := hv.form
  clear hv
  cases h0 : treeB g
  · rw [show treeLeaves g = (0, false) from by unfold treeLeaves; rw [h0]; rfl] at HC
    rw [show treeRes g = (0, false) from by unfold treeRes; rw [h0]; rfl]
    clear h0 hm
    go_enter Tryz.func113, Tryz.ntmps113
    go_wp2_with fail
    refine HC.out.mono ?_
    rintro e w1 ⟨rfl, x1⟩
    unfold pairV
    have X1 := Lib.hid x1; clear x1
    go_wp2
    go_ret2
    exact ⟨rfl, X1.out⟩
  · have HG := Lib.hid (tree_of h0).graph
    have hl := HG.out.le
    have hb := leaves_small HG.out
    have hf4 := forks_small HG.out
    have hfew := forks_few HG.out
    have HE : Hid (treeRes g = (((treeNum g : Nat) : Int), true)) := by unfold treeRes Hid; rw [h0]; rfl
    rw [show treeLeaves g = (((leavesN g : Nat) : Int), true) from by unfold treeLeaves; rw [h0]; rfl] at HC
    rw [show treeForks g = (((forksN g : Nat) : Int), true) from by unfold treeForks; rw [h0]; rfl] at HF
    rw [HE.out]
    have HN : Hid (treeNum g = if g.length = 1 then 0 else if forksN g = 0 then 1 else cnt (leavesN g) - cnt (forksN g)) := rfl
    clear h0 HE hm
    obtain ⟨L, hL⟩ : ∃ L, L = g.length := ⟨_, rfl⟩
    rw [← hL] at hl HC HF HN ⊢
    clear hL
    obtain ⟨S, hS⟩ : ∃ S, S = leavesN g := ⟨_, rfl⟩
    rw [← hS] at hb HC HN hfew
    clear hS
    obtain ⟨F, hF⟩ : ∃ F, F = forksN g := ⟨_, rfl⟩
    rw [← hF] at hf4 HF HN hfew
    clear hF
    by_cases h1 : L = 1
    · have f1 : ((L : Int) == 1) = true := by simp [h1]
      have HN' : Hid (treeNum g = 0) := by rw [HN.out, if_pos h1]; rfl
      clear h1
      go_enter Tryz.func113, Tryz.ntmps113
      go_wp2_with fail
      refine HC.out.mono ?_
      rintro e w1 ⟨rfl, x1⟩
      unfold pairV
      have X1 := Lib.hid x1; clear x1
      go_wp2
      go_ret2
      exact ⟨ret_pair' (by rw [HN'.out]; rfl), X1.out⟩
    · have f1 : ((L : Int) == 1) = false := by simp; omega
      rw [if_neg h1] at HN
      clear h1
      by_cases h2 : F = 0
      · have f2 : ((F : Int) == 0) = true := by simp [h2]
        have HN' : Hid (treeNum g = 1) := by rw [HN.out, if_pos h2]; rfl
        clear h2
        go_enter Tryz.func113, Tryz.ntmps113
        go_wp2_with fail
        refine HC.out.mono ?_
        rintro e w1 ⟨rfl, x1⟩
        unfold pairV
        have X1 := Lib.hid x1; clear x1
        go_wp2_with fail
        refine (HF.out w1 X1.out).mono ?_
        rintro e w2 ⟨rfl, x2⟩
        unfold pairV
        have X2 := Lib.hid (X1.out.trans x2); clear x2
        go_wp2
        go_ret2
        exact ⟨ret_pair' (by rw [HN'.out]; rfl), X2.out⟩
      · have f2 : ((F : Int) == 0) = false := by simp; omega
        rw [if_neg h2] at HN
        clear h2
        have HCS := Lib.hid fun u => l1Count_c S (by omega) u
        have HCF := Lib.hid fun u => l1Count_c F (by omega) u
        obtain ⟨A, hA⟩ : ∃ A, A = cnt S := ⟨_, rfl⟩
        obtain ⟨B, hB⟩ : ∃ B, B = cnt F := ⟨_, rfl⟩
        have hA12 : A ≤ 12 := by rw [hA]; exact cnt_le S
        rw [← hA] at HN HCS hfew
        rw [← hB] at HN HCF hfew
        clear hA hB
        obtain ⟨D, hD, hDD⟩ : ∃ D : Nat, (A : Int) - (B : Int) = (D : Int) ∧ D = A - B := ⟨A - B, by omega, rfl⟩
        have HN' : Hid (treeNum g = D) := by rw [HN.out, hDD]; rfl
        clear hDD hfew
        go_enter Tryz.func113, Tryz.ntmps113
        go_wp2_with fail
        refine HC.out.mono ?_
        rintro e w1 ⟨rfl, x1⟩
        unfold pairV
        have X1 := Lib.hid x1; clear x1
        go_wp2_with fail
        refine (HF.out w1 X1.out).mono ?_
        rintro e w2 ⟨rfl, x2⟩
        unfold pairV
        have X2 := Lib.hid (X1.out.trans x2); clear x2
        go_wp2_with fail
        refine (HCS.out w2).mono ?_
        rintro e w' ⟨rfl, rfl⟩
        go_wp2_with fail
        refine (HCF.out w2).mono ?_
        rintro e w' ⟨rfl, rfl⟩
        go_wp2
        go_ret2
        exact ⟨ret_pair' (by rw [HN'.out]), X2.out⟩
end Go.Proofs.YtkmfmhckpfomeaaGreatDoor
