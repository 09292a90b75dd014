/- What the walk of FnForks rests on, part 16: plain facts, and contracts of the functions that it reaches. Each states its own condition. -/
import Derived.Test.YtpmammklklkheaaFnForksP15
import Derived.Test.YtpmammklklkheaaFnForksP10
import Derived.Test.YtpmammklklkheaaFnForksP7
/- A connected graph with one edge less than nodes is a tree: plain, by counting. No condition. -/
namespace Go.Proofs.Ytpmammklklkheaa

def sumTo (f : Nat → Nat) : Nat → Nat
  | 0 => 0
  | k + 1 => sumTo f k + f k
theorem sumTo_congr {f h : Nat → Nat} : ∀ {n : Nat}, (∀ x, x < n → f x = h x) → sumTo f n = sumTo h n
  | 0, _ => rfl
  | n + 1, e => by
    unfold sumTo
    rw [sumTo_congr (n := n) (fun x hx => e x (by omega)), e n (by omega)]
theorem sumTo_add (f h : Nat → Nat) : ∀ n, sumTo (fun x => f x + h x) n = sumTo f n + sumTo h n
  | 0 => rfl
  | n + 1 => by
    have := sumTo_add f h n
    unfold sumTo
    omega
theorem sumTo_zero : ∀ n, sumTo (fun _ => 0) n = 0
  | 0 => rfl
  | n + 1 => by unfold sumTo; rw [sumTo_zero n]
theorem sumTo_swap (F : Nat → Nat → Nat) (m : Nat) : ∀ n, sumTo (fun x => sumTo (fun z => F x z) m) n = sumTo (fun z => sumTo (fun x => F x z) n) m
  | 0 => by
    show 0 = sumTo (fun _ => 0) m
    rw [sumTo_zero]
  | n + 1 => by
    have e : sumTo (fun z => sumTo (fun x => F x z) (n + 1)) m = sumTo (fun z => sumTo (fun x => F x z) n + F n z) m := rfl
    rw [e, sumTo_add, ← sumTo_swap F m n]
    rfl
theorem sumTo_le {f h : Nat → Nat} : ∀ {n : Nat}, (∀ x, x < n → h x ≤ f x) → sumTo h n ≤ sumTo f n
  | 0, _ => Nat.le_refl _
  | n + 1, e => by
    have h1 := sumTo_le (n := n) fun x hx => e x (by omega)
    have h2 := e n (by omega)
    unfold sumTo
    omega
theorem sum_tight {f h : Nat → Nat} : ∀ {n : Nat}, (∀ x, x < n → h x ≤ f x) → sumTo f n ≤ sumTo h n → ∀ x, x < n → f x = h x
  | 0, _, _, x, hx => absurd hx (Nat.not_lt_zero x)
  | n + 1, e, hs, x, hx => by
    have h1 := sumTo_le (n := n) fun x hx => e x (by omega)
    have h2 := e n (by omega)
    unfold sumTo at hs
    by_cases e' : x = n
    · subst e'; omega
    · exact sum_tight (n := n) (fun x hx => e x (by omega)) (by omega) x (by omega)
theorem sumTo_count (p : Nat → Bool) : ∀ n, sumTo (fun i => (p i).toNat) n = (List.range n).countP p
  | 0 => rfl
  | n + 1 => by
    have e : sumTo (fun i => (p i).toNat) (n + 1) = sumTo (fun i => (p i).toNat) n + (p n).toNat := rfl
    rw [e, List.range_succ, List.countP_append, ← sumTo_count p n]
    cases h : p n <;> simp [h]
theorem sum_one {p : Nat → Bool} {n a : Nat} (ha : a < n) (h : p a = true) : 1 ≤ sumTo (fun i => (p i).toNat) n := by
  rw [sumTo_count]
  have : 0 < (List.range n).countP p := List.countP_pos_iff.2 ⟨a, List.mem_range.2 ha, h⟩
  omega
theorem sum_two {p : Nat → Bool} : ∀ {n a b : Nat}, a < b → b < n → p a = true → p b = true → 2 ≤ sumTo (fun i => (p i).toNat) n
  | 0, a, b, _, h, _, _ => absurd h (Nat.not_lt_zero b)
  | n + 1, a, b, hab, hb, ha, hpb => by
    unfold sumTo
    by_cases e : b = n
    · subst e
      have := sum_one (p := p) hab ha
      rw [hpb]
      show 2 ≤ _ + 1
      omega
    · have := sum_two (n := n) hab (by omega) ha hpb
      omega
theorem sum_two' {p : Nat → Bool} {n a b : Nat} (hab : a ≠ b) (la : a < n) (lb : b < n) (ha : p a = true) (hb : p b = true) : 2 ≤ sumTo (fun i => (p i).toNat) n := by
  rcases Nat.lt_or_ge a b with h | h
  · exact sum_two h lb ha hb
  · exact sum_two (show b < a by omega) la hb ha
theorem sum_but (v : Nat) : ∀ n, sumTo (fun x => if x = v then 0 else 1) n = if v < n then n - 1 else n
  | 0 => rfl
  | n + 1 => by
    have := sum_but v n
    unfold sumTo
    rw [this]
    by_cases e : n = v
    · subst e
      rw [if_neg (Nat.lt_irrefl n), if_pos rfl, if_pos (by omega)]
      omega
    · rw [if_neg e]
      by_cases h : v < n
      · rw [if_pos h, if_pos (by omega)]; omega
      · rw [if_neg h, if_neg (by omega)]
/-! ### What a tree is by its edges -/
def conB (g : List Int) : Bool := (List.range g.length).all fun y => decide (dd g 0 y ≠ 12)
def treeB (g : List Int) : Bool := graphIn g && conB g && decide (sumTo (deg g) g.length + 2 = 2 * g.length)
theorem reach_add {g : List Int} (hg : IsGraph g) {x y : Nat} {a : Nat} (h : (reach g x a).testBit y = true) : ∀ {b z : Nat}, (reach g y b).testBit z = true → (reach g x (a + b)).testBit z = true
  | 0, z, hz => by
    rw [reach_zero] at hz
    subst hz
    exact h
  | b + 1, z, hz => by
    rcases (reach_succ hg).1 hz with h1 | ⟨u, h1, h2⟩
    · exact (reach_succ hg).2 (.inl (reach_add hg h h1))
    · exact (reach_succ hg).2 (.inr ⟨u, reach_add hg h h1, h2⟩)
theorem con_fin {g : List Int} (hg : IsGraph g) (hc : conB g = true) {x y : Nat} (hx : x < g.length) (hy : y < g.length) : dd g x y ≤ 11 := by
  have hl := hg.le
  unfold conB at hc
  simp only [List.all_eq_true, List.mem_range, decide_eq_true_eq] at hc
  have h1 := hc x hx
  have h2 := hc y hy
  have h3 := dd_le g 0 x
  have h4 := dd_le g 0 y
  have r1 := reach_symm hg ((dd_iff hg (show dd g 0 x ≤ 11 by omega)).1 (Nat.le_refl _))
  have r2 := (dd_iff hg (show dd g 0 y ≤ 11 by omega)).1 (Nat.le_refl _)
  have r3 := reach_mono hg (show dd g 0 x + dd g 0 y ≤ 24 by omega) (reach_add hg r1 r2)
  rw [reach_end hg hx (show g.length - 1 ≤ 24 by omega)] at r3
  have := (dd_iff hg (show g.length - 1 ≤ 11 by omega)).2 r3
  omega
def clB (g : List Int) (v x z : Nat) : Bool := (gN g x).testBit z && decide (dd g z v < dd g x v)
def eqB (g : List Int) (v x z : Nat) : Bool := (gN g x).testBit z && decide (dd g z v = dd g x v)
theorem deg_sum {g : List Int} (hg : IsGraph g) (v x : Nat) : deg g x = sumTo (fun z => (clB g v x z).toNat) g.length + sumTo (fun z => (eqB g v x z).toNat) g.length + sumTo (fun z => (clB g v z x).toNat) g.length := by
  unfold deg
  rw [← cnt_range (hg.lt x) hg.le, ← sumTo_count, ← sumTo_add, ← sumTo_add]
  apply sumTo_congr
  intro z _
  unfold clB eqB
  rw [hg.sym z x]
  cases (gN g x).testBit z
  · rfl
  · simp only [Bool.true_and, Bool.toNat_true]
    rcases Nat.lt_trichotomy (dd g z v) (dd g x v) with h | h | h
    · rw [decide_eq_true h, decide_eq_false (show ¬ dd g z v = dd g x v by omega), decide_eq_false (show ¬ dd g x v < dd g z v by omega)]; rfl
    · rw [decide_eq_false (show ¬ dd g z v < dd g x v by omega), decide_eq_true h, decide_eq_false (show ¬ dd g x v < dd g z v by omega)]; rfl
    · rw [decide_eq_false (show ¬ dd g z v < dd g x v by omega), decide_eq_false (show ¬ dd g z v = dd g x v by omega), decide_eq_true h]; rfl
theorem tree_of {g : List Int} (h : treeB g = true) : IsTree g := by
  unfold treeB at h
  rw [Bool.and_eq_true, Bool.and_eq_true, decide_eq_true_iff] at h
  obtain ⟨⟨h1, hc⟩, he⟩ := h
  have hg := graphIn_iff.1 h1
  have hfin : ∀ x y, x < g.length → y < g.length → dd g x y ≤ 11 := fun x y hx hy => con_fin hg hc hx hy
  refine ⟨hg, hfin, fun v x hv hx hxv => ?_⟩
  let c : Nat → Nat := fun x => sumTo (fun z => (clB g v x z).toNat) g.length
  let e : Nat → Nat := fun x => sumTo (fun z => (eqB g v x z).toNat) g.length
  let d : Nat → Nat := fun x => sumTo (fun z => (clB g v z x).toNat) g.length
  have hs : sumTo (deg g) g.length = sumTo c g.length + sumTo e g.length + sumTo d g.length := by
    rw [← sumTo_add, ← sumTo_add]
    exact sumTo_congr fun x _ => deg_sum hg v x
  have hsw : sumTo c g.length = sumTo d g.length := sumTo_swap (fun x z => (clB g v x z).toNat) g.length g.length
  have hcl : ∀ x, x < g.length → x ≠ v → ∃ z, z < g.length ∧ clB g v x z = true := fun x hx hxv => by
    have h0 : dd g v x ≠ 0 := fun e => hxv ((dd_zero hg).1 e)
    have h11 := hfin v x hv hx
    obtain ⟨z, z1, z2⟩ := (dd_step hg (d := dd g v x - 1) (by omega) (by omega)).1 (show dd g v x = dd g v x - 1 + 1 by omega)
    refine ⟨z, bit_lt (hg.lt x) (by rw [hg.sym]; exact z2), ?_⟩
    unfold clB
    rw [hg.sym x z, z2, Bool.true_and, decide_eq_true_iff, dd_symm hg z v, dd_symm hg x v]
    omega
  have hlow : ∀ x, x < g.length → (if x = v then 0 else 1) ≤ c x := fun x hx => by
    by_cases e : x = v
    · rw [if_pos e]; omega
    · rw [if_neg e]
      obtain ⟨z, z1, z2⟩ := hcl x hx e
      exact sum_one z1 z2
  have hbut := sum_but v g.length
  rw [if_pos hv] at hbut
  have hle := sumTo_le hlow
  have htight := sum_tight hlow (by omega) x hx
  rw [if_neg hxv] at htight
  have he0 : sumTo e g.length = 0 := by omega
  have hex : e x = 0 := by
    have := sum_tight (f := e) (h := fun _ => 0) (n := g.length) (fun _ _ => Nat.zero_le _) (by rw [sumTo_zero]; omega) x hx
    exact this
  obtain ⟨z, lz, hz⟩ := hcl x hx hxv
  have hz' := hz
  unfold clB at hz'
  rw [Bool.and_eq_true, decide_eq_true_iff] at hz'
  refine ⟨z, hz'.1, ?_, fun z' hz1 hne => ?_⟩
  · have := near hg (show adj g x z from hz'.1) v
    omega
  · have lz' := (adj_lt hg hz1).2
    have n1 := near hg (adj_symm hg hz1) v
    have h2 : clB g v x z' = false := by
      cases e' : clB g v x z'
      · rfl
      · have := sum_two' (p := fun z => clB g v x z) hne lz' lz e' hz
        have : 2 ≤ c x := this
        omega
    have h3 : eqB g v x z' = false := by
      cases e' : eqB g v x z'
      · rfl
      · have : 1 ≤ e x := sum_one (p := fun z => eqB g v x z) lz' e'
        omega
    unfold clB at h2
    unfold eqB at h3
    unfold adj at hz1
    rw [hz1, Bool.true_and, decide_eq_false_iff_not] at h2 h3
    omega
end Go.Proofs.Ytpmammklklkheaa

/- Trees: the reference's functions compute the plain ones. The condition: the list has at most 2^20 numbers. -/
namespace Go.Proofs.Ytpmammklklkheaa
open Go.RowKit
open BigFrame

def conn (g : List Int) : Bool := graphIn g && conB g
def treeLeaves (g : List Int) : Int × Bool := if treeB g then (((leavesN g : Nat) : Int), true) else (0, false)
noncomputable def treeForks (g : List Int) : Int × Bool := if treeB g then (((forksN g : Nat) : Int), true) else (0, false)
noncomputable def treeRes (g : List Int) : Int × Bool := if treeB g then (((treeNum g : Nat) : Int), true) else (0, false)
theorem distOf_length {g : List Int} (hg : IsGraph g) {x : Nat} (hx : x < g.length) : (distOf g x).length = g.length := (bfs_lt hg hx _).2.2.2
theorem sumTo_small {g : List Int} {k : Nat} : sumTo (deg g) k ≤ 12 * k := by
  induction k with
  | zero => exact Nat.le_refl _
  | succ k ih =>
    have := cnt_le (gN g k)
    have e : sumTo (deg g) (k + 1) = sumTo (deg g) k + cnt (gN g k) := rfl
    omega
theorem conn_false {g : List Int} {k : Nat} (hk : k < g.length) (h : dd g 0 k = 12) : conB g = false := by
  unfold conB
  rw [List.all_eq_false]
  exact ⟨k, List.mem_range.2 hk, by simp [h]⟩
theorem conn_true {g : List Int} (h : ∀ k, k < g.length → dd g 0 k ≠ 12) : conB g = true := by
  unfold conB
  rw [List.all_eq_true]
  intro k hk
  rw [List.mem_range] at hk
  rw [decide_eq_true_iff]
  exact h k hk

set_option maxHeartbeats 1000000 in
theorem l1Connected_c (v : Value) (g : List Int) (w : World) (hv : Rd w v g) (hg : IsGraph g) :
    Calls Try.prog 127 #[v] w fun e w' => e = .returned (.bool (conB g)) ∧ Ext w w' := by
  have hpos := hg.pos
  have hl := hg.le
  have HC := Lib.hid (l1Distances_c v g 0 w hv hg hpos)
  have HG := Lib.hid hg
  obtain ⟨a, c, rfl⟩ := hv.form
  clear hv hg
  go_enter Try.func127, Try.ntmps127
  go_wp2_with fail
  refine HC.out.mono ?_
  rintro e w1 ⟨v1, rfl, o1, x1⟩
  have hlen : (distOf g 0).length = g.length := distOf_length HG.out hpos
  obtain ⟨gb, cb, rfl⟩ := o1.slice (by omega)
  rw [hlen] at o1 ⊢
  have HD : Hid (∀ i, i < g.length → ∀ u, Ext w1 u → u.cell? ⟨gb, i, none⟩ = some (.int .i64 (dd g 0 i : Nat))) := fun i hi u hu => by
    obtain ⟨-, -, -, h1, h2, -⟩ := o1.at
    rw [hu.cell h1, h2 i hi, dist_get HG.out hpos hi]
  have X1 := Lib.hid x1
  clear o1 x1 HC hlen
  obtain ⟨L, hL⟩ : ∃ L, L = g.length := ⟨_, rfl⟩
  have HL := Lib.hid hL
  rw [← hL] at hpos hl HD ⊢
  clear hL
  go_wp2
  go_loop [4] (fun i => ∃ k : Nat, k ≤ L ∧ i = .int .i64 k ∧ Hid (∀ j, j < k → dd g 0 j ≠ 12)) (fun i => L - (intOf i).toNat)
  case atStart => exact ⟨0, Nat.zero_le _, rfl, fun j hj => absurd hj (Nat.not_lt_zero j)⟩
  case round =>
    obtain ⟨k, hk, rfl, HJ⟩ := hrel
    by_cases hlt : k < L
    · have c1 := HD.out k hlt _ (Ext.refl _)
      by_cases hd : dd g 0 k = 12
      · have f1 : (((dd g 0 k : Nat) : Int) == 12) = true := by rw [hd]; rfl
        have HF := Lib.hid (conn_false (show k < g.length by rw [← HL.out]; exact hlt) hd)
        clear hd
        go_wp2
        go_ret
        exact ⟨ret_bool HF.out.symm, X1.out⟩
      · have f1 : (((dd g 0 k : Nat) : Int) == 12) = false := by simp; omega
        have HN : Hid (∀ j, j < k + 1 → dd g 0 j ≠ 12) := fun j hj => by
          by_cases e : j = k
          · subst e; exact hd
          · exact HJ.out j (by omega)
        clear hd
        go_wp2
        go_round
        case rel => exact ⟨k + 1, by omega, by go_num, HN⟩
        case measure => simp [intOf]; omega
    · obtain rfl : k = L := by omega
      go_wp2
      go_ret
      exact ⟨ret_bool (conn_true (by rw [← HL.out]; exact HJ.out)).symm, X1.out⟩

set_option maxHeartbeats 1000000 in
theorem graphConnectedS_c (v : Value) (g : List Int) (w : World) (hv : Rd w v g) (hm : g.length ≤ 1048576) :
    Calls Try.prog 115 #[v] w fun e w' => e = .returned (.bool (conn g)) ∧ Ext w w' := by
  have HV := Lib.hid hv
  have HC := Lib.hid (graphInS_c v g w hv hm)
  obtain ⟨a, c, rfl⟩ := hv.form
  clear hv
  unfold conn
  cases h0 : graphIn g
  · rw [h0] at HC
    go_enter Try.func115, Try.ntmps115
    go_wp2_with fail
    refine HC.out.mono ?_
    rintro e w1 ⟨rfl, x1⟩
    have X1 := Lib.hid x1; clear x1
    go_wp2
    go_ret
    exact ⟨rfl, X1.out⟩
  · rw [h0] at HC
    have HG := Lib.hid (graphIn_iff.1 h0)
    clear h0
    go_enter Try.func115, Try.ntmps115
    go_wp2_with fail
    refine HC.out.mono ?_
    rintro e w1 ⟨rfl, x1⟩
    have X1 := Lib.hid x1; clear x1
    go_wp2_with fail
    refine (l1Connected_c _ g w1 (HV.out.ext X1.out) HG.out).mono ?_
    rintro e w2 ⟨rfl, x2⟩
    have X2 := Lib.hid (X1.out.trans x2); clear x2
    obtain ⟨T, hT⟩ : ∃ T, T = conB g := ⟨_, rfl⟩
    rw [← hT]
    have HT := Lib.hid hT
    clear hT
    go_wp2
    go_ret
    exact ⟨ret_bool HT.out, X2.out⟩

set_option maxHeartbeats 400000 in
theorem l3Degree_c (v : Value) (g : List Int) (x : Nat) (w : World) (hv : Rd w v g) (hg : IsGraph g) (hx : x < g.length) :
    Calls Try.prog 90 #[v, .int .i64 x] w fun e w' => e = .returned (.int .i64 (deg g x : Nat)) ∧ w = w' := by
  obtain ⟨a, c, rfl⟩ := hv.form
  obtain ⟨b, o, rfl, -, -, hc⟩ := hv.atI hx
  have c1 := hc w (Ext.refl w)
  rw [hg.row x hx] at c1
  have h4 := hg.small x
  have HL := Lib.hid (l1Count_c (gN g x) (by omega) w)
  clear hc hv hg
  go_enter Try.func90, Try.ntmps90
  go_wp2_with (go_at_call 70; refine HL.out.mono ?_; rintro e w' ⟨rfl, rfl⟩)
  go_ret
  exact ⟨rfl, rfl⟩

set_option maxHeartbeats 1000000 in
theorem treeInS_c (v : Value) (g : List Int) (w : World) (hv : Rd w v g) (hm : g.length ≤ 1048576) :
    Calls Try.prog 89 #[v] w fun e w' => e = .returned (.bool (treeB g)) ∧ Ext w w' := by
  have HV := Lib.hid hv
  have HC := Lib.hid (graphConnectedS_c v g w hv hm)
  obtain ⟨a, c, rfl⟩ := hv.form
  clear hv
  cases h0 : conn g
  · rw [h0] at HC
    rw [show treeB g = false from by unfold treeB; unfold conn at h0; rw [h0]; rfl]
    go_enter Try.func89, Try.ntmps89
    go_wp2_with fail
    refine HC.out.mono ?_
    rintro e w1 ⟨rfl, x1⟩
    have X1 := Lib.hid x1; clear x1
    go_wp2
    go_ret
    exact ⟨rfl, X1.out⟩
  · rw [h0] at HC
    have h0' := h0
    unfold conn at h0'
    rw [Bool.and_eq_true] at h0'
    have hG := graphIn_iff.1 h0'.1
    have HG := Lib.hid hG
    have hl := hG.le
    have hpos := hG.pos
    have HT : Hid (treeB g = decide (sumTo (deg g) g.length + 2 = 2 * g.length)) := by unfold treeB Hid; unfold conn at h0; rw [h0]; rfl
    rw [HT.out]
    clear hG h0 h0' HT
    obtain ⟨L, hL⟩ : ∃ L, L = g.length := ⟨_, rfl⟩
    have HL := Lib.hid hL
    rw [← hL] at hl hpos HC ⊢
    have HV' : Hid (Rd w (.slice a L c) g) := by rw [hL]; exact HV.out
    clear hL HV hm
    go_enter Try.func89, Try.ntmps89
    go_wp2_with fail
    refine HC.out.mono ?_
    rintro e w1 ⟨rfl, x1⟩
    have X1 := Lib.hid x1; clear x1
    have R1 := Lib.hid (HV'.out.ext X1.out)
    go_wp2
    go_loop [3, 4] (fun n i => ∃ k D : Nat, k ≤ L ∧ i = .int .i64 k ∧ n = .int .i64 D ∧ D ≤ 12 * k ∧ Hid (D = sumTo (deg g) k)) (fun _ i => L - (intOf i).toNat)
    case atStart => exact ⟨0, 0, Nat.zero_le _, rfl, rfl, Nat.le_refl _, rfl⟩
    case round =>
      obtain ⟨k, D, hk, rfl, rfl, hD, HD⟩ := hrel
      by_cases hlt : k < L
      · have hc12 : deg g k ≤ 12 := cnt_le _
        have HE : Hid (D + deg g k = sumTo (deg g) (k + 1)) := by unfold Hid; rw [HD.out]; rfl
        have HDg := Lib.hid (l3Degree_c (.slice a L c) g k w1 R1.out HG.out (by rw [← HL.out]; exact hlt))
        generalize deg g k = dk at hc12 HE HDg
        go_wp2_with (go_at_call 90; refine HDg.out.mono ?_; rintro e w' ⟨rfl, rfl⟩)
        go_round
        case rel => exact ⟨k + 1, D + dk, by omega, by go_num, by go_num, by omega, HE⟩
        case measure => simp [intOf]; omega
      · obtain rfl : k = L := by omega
        obtain ⟨L2, hL2⟩ : ∃ L2 : Nat, (k : Int) - 1 = (L2 : Int) := ⟨k - 1, by omega⟩
        have HR : Hid (decide (sumTo (deg g) k + 2 = 2 * k) = ((D : Int) == 2 * (L2 : Int))) := by
          unfold Hid
          rw [← HD.out, Bool.eq_iff_iff, decide_eq_true_iff, beq_iff_eq]
          omega
        obtain ⟨T, hT⟩ : ∃ T, ((D : Int) == 2 * (L2 : Int)) = T := ⟨_, rfl⟩
        rw [hT] at HR
        go_wp2
        go_ret
        exact ⟨ret_bool HR.out.symm, X1.out⟩

set_option maxHeartbeats 1000000 in
theorem treeLeavesS_c (v : Value) (g : List Int) (w : World) (hv : Rd w v g) (hm : g.length ≤ 1048576) :
    Calls Try.prog 47 #[v] w fun e w' => e = .returned (pairV (treeLeaves g)) ∧ Ext w w' := by
  have HV := Lib.hid hv
  have HC := Lib.hid (treeInS_c v g w hv hm)
  obtain ⟨a, c, rfl⟩ := hv.form
  clear hv
  cases h0 : treeB g
  · rw [h0] at HC
    rw [show treeLeaves g = (0, false) from by unfold treeLeaves; rw [h0]; rfl]
    go_enter Try.func47, Try.ntmps47
    go_wp2_with fail
    refine HC.out.mono ?_
    rintro e w1 ⟨rfl, x1⟩
    have X1 := Lib.hid x1; clear x1
    go_wp2
    go_ret2
    exact ⟨rfl, X1.out⟩
  · rw [h0] at HC
    have hG := (tree_of h0).graph
    have HG := Lib.hid hG
    have hl := hG.le
    have HT : Hid (treeLeaves g = (((mask (leafB g) g.length : Nat) : Int), true)) := by unfold treeLeaves Hid; rw [h0]; rfl
    rw [HT.out]
    clear hG h0 HT
    obtain ⟨L, hL⟩ : ∃ L, L = g.length := ⟨_, rfl⟩
    have HL := Lib.hid hL
    rw [← hL] at hl HC ⊢
    have HV' : Hid (Rd w (.slice a L c) g) := by rw [hL]; exact HV.out
    clear hL HV hm
    go_enter Try.func47, Try.ntmps47
    go_wp2_with fail
    refine HC.out.mono ?_
    rintro e w1 ⟨rfl, x1⟩
    have X1 := Lib.hid x1; clear x1
    have R1 := Lib.hid (HV'.out.ext X1.out)
    go_wp2
    go_loop [4, 5] (fun s i => ∃ k X : Nat, k ≤ L ∧ i = .int .i64 k ∧ s = .int .i64 X ∧ X ≤ 4095 ∧ Hid (X = mask (leafB g) k)) (fun _ i => L - (intOf i).toNat)
    case atStart => exact ⟨0, 0, Nat.zero_le _, rfl, rfl, by omega, rfl⟩
    case round =>
      obtain ⟨k, X, hk, rfl, rfl, hX, HX⟩ := hrel
      by_cases hlt : k < L
      · have HDg := Lib.hid (l3Degree_c (.slice a L c) g k w1 R1.out HG.out (by rw [← HL.out]; exact hlt))
        by_cases hd : deg g k = 1
        · have f1 : (((deg g k : Nat) : Int) == 1) = true := by rw [hd]; rfl
          obtain ⟨p, hp, hp1, hp2, hp3⟩ := pow_var k (by omega)
          have hp4 : p ≤ 2048 := by rw [← hp]; exact (Nat.pow_le_pow_right (by omega) (by omega) : 2 ^ k ≤ 2 ^ 11)
          have e0 : min k 64 = k := by omega
          have e1 := bits_or X p (by omega) (by omega)
          have hb4 : bor X p ≤ 4095 := by have := bor_lt (x := X) (y := p) (n := 12) (by omega) (by omega); omega
          have HE : Hid (bor X p = mask (leafB g) (k + 1)) := by unfold Hid; rw [HX.out, ← hp]; show _ = (if leafB g k then _ else _); rw [show leafB g k = true from by unfold leafB; rw [hd]; rfl]; rfl
          generalize bor X p = Y at e1 hb4 HE
          clear hd hp
          go_wp2_with (go_at_call 90; refine HDg.out.mono ?_; rintro e w' ⟨rfl, rfl⟩)
          go_round
          case rel => exact ⟨k + 1, Y, by omega, by go_num, rfl, hb4, HE⟩
          case measure => simp [intOf]; omega
        · have f1 : (((deg g k : Nat) : Int) == 1) = false := by simp; omega
          have HE : Hid (X = mask (leafB g) (k + 1)) := by unfold Hid; rw [HX.out]; show _ = (if leafB g k then _ else _); rw [show leafB g k = false from by unfold leafB; rw [decide_eq_false hd]]; rfl
          clear hd
          go_wp2_with (go_at_call 90; refine HDg.out.mono ?_; rintro e w' ⟨rfl, rfl⟩)
          go_round
          case rel => exact ⟨k + 1, X, by omega, by go_num, rfl, hX, HE⟩
          case measure => simp [intOf]; omega
      · obtain rfl : k = L := by omega
        go_wp2
        go_ret2
        exact ⟨ret_pair' (by rw [HX.out]), X1.out⟩
end Go.Proofs.Ytpmammklklkheaa

/- Trees, leaves: the program's functions compute the plain ones. The condition: the list has at most 2^20 numbers, each below 2^63. -/
namespace Go.Proofs.Ytpmammklklkheaa
open Go.RowKit
open BigFrame

set_option maxHeartbeats 1000000 in
theorem graphConnectedI_c (v : Value) (g : List Int) (w : World) (hv : Rd w v g) (hm : g.length ≤ 1048576) :
    Calls Try.prog 87 #[v] w fun e w' => e = .returned (.bool (conn g)) ∧ Ext w w' := by
  have HV := Lib.hid hv
  have HC := Lib.hid (graphInI_c v g w hv hm)
  obtain ⟨a, c, rfl⟩ := hv.form
  clear hv hm
  unfold conn
  cases h0 : graphIn g
  · rw [h0] at HC
    clear h0
    go_enter Try.func87, Try.ntmps87
    go_wp2_with fail
    refine HC.out.mono ?_
    rintro e w1 ⟨rfl, x1⟩
    have X1 := Lib.hid x1; clear x1
    go_wp2
    go_ret
    exact ⟨rfl, X1.out⟩
  · rw [h0] at HC
    have HG := Lib.hid (graphIn_iff.1 h0)
    have hpos := HG.out.pos
    have hl := HG.out.le
    clear h0
    go_enter Try.func87, Try.ntmps87
    go_wp2_with fail
    refine HC.out.mono ?_
    rintro e w1 ⟨rfl, x1⟩
    have X1 := Lib.hid x1; clear x1 HC
    go_wp2_with fail
    refine (distances_c _ g 0 w1 (HV.out.ext X1.out) HG.out hpos).mono ?_
    rintro e w2 ⟨v2, rfl, o2, x2⟩
    have hlen : (distOf g 0).length = g.length := distOf_length HG.out hpos
    obtain ⟨gb, cb, rfl⟩ := o2.slice (by omega)
    rw [hlen] at o2 ⊢
    have HD : Hid (∀ i, i < g.length → ∀ u, Ext w2 u → u.cell? ⟨gb, i, none⟩ = some (.int .i64 (dd g 0 i : Nat))) := fun i hi u hu => by
      obtain ⟨-, -, -, h1, h2, -⟩ := o2.at
      rw [hu.cell h1, h2 i hi, dist_get HG.out hpos hi]
    have X2 := Lib.hid (X1.out.trans x2)
    clear o2 x2 hlen
    obtain ⟨L, hL⟩ : ∃ L, L = g.length := ⟨_, rfl⟩
    have HL := Lib.hid hL
    rw [← hL] at hpos hl HD ⊢
    clear hL
    go_wp2
    go_loop [11] (fun i => ∃ k : Nat, k ≤ L ∧ i = .int .i64 k ∧ Hid (∀ j, j < k → dd g 0 j ≠ 12)) (fun i => L - (intOf i).toNat)
    case atStart => exact ⟨0, Nat.zero_le _, rfl, fun j hj => absurd hj (Nat.not_lt_zero j)⟩
    case round =>
      obtain ⟨k, hk, rfl, HJ⟩ := hrel
      by_cases hlt : k < L
      · have c1 := HD.out k hlt _ (Ext.refl _)
        by_cases hd : dd g 0 k = 12
        · have f1 : (((dd g 0 k : Nat) : Int) == 12) = true := by rw [hd]; rfl
          have HF := Lib.hid (conn_false (show k < g.length by rw [← HL.out]; exact hlt) hd)
          clear hd
          go_wp2
          go_ret
          exact ⟨ret_bool (by rw [HF.out]), X2.out⟩
        · have f1 : (((dd g 0 k : Nat) : Int) == 12) = false := by simp; omega
          have HN : Hid (∀ j, j < k + 1 → dd g 0 j ≠ 12) := fun j hj => by
            by_cases e : j = k
            · subst e; exact hd
            · exact HJ.out j (by omega)
          clear hd
          go_wp2
          go_round
          case rel => exact ⟨k + 1, by omega, by go_num, HN⟩
          case measure => simp [intOf]; omega
      · obtain rfl : k = L := by omega
        go_wp2
        go_ret
        exact ⟨ret_bool (by rw [conn_true (by rw [← HL.out]; exact HJ.out)]), X2.out⟩

/-- The ones of all numbers, as the program counts them. -/
def popTo (g : List Int) (k : Nat) : Nat := sumTo (fun i => pop64 (gN g i)) k
theorem popTo_small (g : List Int) : ∀ k, popTo g k ≤ 127 * k
  | 0 => Nat.le_refl _
  | k + 1 => by
    have h1 := popTo_small g k
    have h2 := pop64_le (gN g k)
    have e : popTo g (k + 1) = popTo g k + pop64 (gN g k) := rfl
    omega
theorem popTo_deg {g : List Int} (hg : IsGraph g) (k : Nat) : popTo g k = sumTo (deg g) k :=
  sumTo_congr fun x _ => pop64_small _ (by have := hg.small x; omega)

set_option maxHeartbeats 1000000 in
theorem treeInI_c (v : Value) (g : List Int) (w : World) (hv : Rd w v g) (hm : g.length ≤ 1048576) (hb : ∀ i, getI g i < 9223372036854775808) :
    Calls Try.prog 45 #[v] w fun e w' => e = .returned (.bool (treeB g)) ∧ Ext w w' := by
  have HV := Lib.hid hv
  have HC := Lib.hid (graphConnectedI_c v g w hv hm)
  have HM := Lib.hid hm; have HB := Lib.hid hb
  obtain ⟨a, c, rfl⟩ := hv.form
  obtain ⟨L, hL⟩ : ∃ L, L = g.length := ⟨_, rfl⟩
  have HL := Lib.hid hL
  rw [← hL] at HC HM ⊢
  have HV' : Hid (Rd w (.slice a L c) g) := by rw [hL]; exact HV.out
  clear hv hm hb hL HV
  have hLs : L ≤ 1048576 := HM.out
  go_enter Try.func45, Try.ntmps45
  go_wp2
  go_loop [3, 8] (fun n i => ∃ k : Nat, k ≤ L ∧ i = .int .i64 k ∧ n = .int .i64 (popTo g k : Nat)) (fun _ i => L - (intOf i).toNat)
  case atStart => exact ⟨0, Nat.zero_le _, rfl, rfl⟩
  case round =>
    obtain ⟨k, hk, rfl, rfl⟩ := hrel
    by_cases hlt : k < L
    · obtain ⟨b, o, rfl, -, -, hc⟩ := HV'.out.atI hlt
      have c1 := hc w (Ext.refl w)
      clear hc
      have hz63 := HB.out k
      have hmx : max (getI g k) 0 = ((gN g k : Nat) : Int) := by unfold gN; omega
      have hgs : gN g k < 2 ^ 63 := by unfold gN; omega
      have HS := Lib.hid (size_c (gN g k) hgs w)
      have HE : Hid (popTo g k + pop64 (gN g k) = popTo g (k + 1)) := rfl
      have h1 := popTo_small g k
      have h2 := pop64_le (gN g k)
      have h3 : popTo g k ≤ 133169152 := by omega
      clear hgs
      obtain ⟨D, hD⟩ : ∃ D, popTo g k = D := ⟨_, rfl⟩
      obtain ⟨q, hq⟩ : ∃ q, pop64 (gN g k) = q := ⟨_, rfl⟩
      rw [hD] at HE h1 h3 ⊢
      rw [hq] at HE HS h2
      clear hD hq
      generalize gN g k = y at hmx HS
      generalize getI g k = z at hmx c1 hz63
      clear hz63
      go_wp2_with (go_at_call 57; refine HS.out.mono ?_; rintro e w' ⟨rfl, rfl⟩)
      go_round
      case rel => exact ⟨k + 1, by omega, by go_num, by rw [← HE.out]; go_num⟩
      case measure => simp [intOf]; omega
    · obtain rfl : k = L := by omega
      cases h0 : conn g
      · rw [h0] at HC
        have HT : Hid (treeB g = false) := by unfold treeB Hid; unfold conn at h0; rw [h0]; rfl
        clear h0
        go_wp2_with fail
        refine HC.out.mono ?_
        rintro e w1 ⟨rfl, x1⟩
        have X1 := Lib.hid x1; clear x1
        go_wp2
        go_ret
        exact ⟨ret_bool HT.out.symm, X1.out⟩
      · rw [h0] at HC
        have h0' := h0
        unfold conn at h0'
        rw [Bool.and_eq_true] at h0'
        have hG := graphIn_iff.1 h0'.1
        have hl := hG.le
        have hpos := hG.pos
        have HT : Hid (treeB g = decide (sumTo (deg g) g.length + 2 = 2 * g.length)) := by unfold treeB Hid; unfold conn at h0; rw [h0]; rfl
        rw [← HL.out] at hl hpos HT
        obtain ⟨L2, hL2⟩ : ∃ L2 : Nat, (k : Int) - 1 = (L2 : Int) := ⟨k - 1, by omega⟩
        have HR : Hid (treeB g = (((popTo g k : Nat) : Int) == 2 * (L2 : Int))) := by
          unfold Hid
          rw [HT.out, popTo_deg hG, Bool.eq_iff_iff, decide_eq_true_iff, beq_iff_eq]
          omega
        obtain ⟨T, hT⟩ : ∃ T, (((popTo g k : Nat) : Int) == 2 * (L2 : Int)) = T := ⟨_, rfl⟩
        rw [hT] at HR
        have h1 := popTo_small g k
        clear h0 h0' hG HT
        generalize popTo g k = D at *
        go_wp2_with fail
        refine HC.out.mono ?_
        rintro e w1 ⟨rfl, x1⟩
        have X1 := Lib.hid x1; clear x1
        go_wp2
        go_ret
        exact ⟨ret_bool HR.out.symm, X1.out⟩

set_option maxHeartbeats 400000 in
theorem degree_c (v : Value) (g : List Int) (x : Nat) (w : World) (hv : Rd w v g) (hg : IsGraph g) (hx : x < g.length) :
    Calls Try.prog 91 #[v, .int .i64 x] w fun e w' => e = .returned (.int .i64 (deg g x : Nat)) ∧ w = w' := by
  obtain ⟨a, c, rfl⟩ := hv.form
  obtain ⟨b, o, rfl, -, -, hc⟩ := hv.atI hx
  have c1 := hc w (Ext.refl w)
  rw [hg.row x hx] at c1
  have h4 := hg.small x
  have HL := Lib.hid (sizeC (gN g x) h4 w)
  clear hc hv hg
  go_enter Try.func91, Try.ntmps91
  go_wp2_with (go_at_call 57; refine HL.out.mono ?_; rintro e w' ⟨rfl, rfl⟩)
  go_ret
  exact ⟨rfl, rfl⟩

set_option maxHeartbeats 1000000 in
theorem leaves_c (v : Value) (g : List Int) (w : World) (hv : Rd w v g) (hg : IsGraph g) :
    Calls Try.prog 50 #[v] w fun e w' => e = .returned (.int .i64 (leavesN g : Nat)) ∧ w = w' := by
  have HV := Lib.hid hv; have HG := Lib.hid hg
  have hl := hg.le
  obtain ⟨a, c, rfl⟩ := hv.form
  obtain ⟨L, hL⟩ : ∃ L, L = g.length := ⟨_, rfl⟩
  have HL := Lib.hid hL
  have HE : Hid (leavesN g = mask (leafB g) L) := by rw [hL]; rfl
  rw [← hL] at hl ⊢
  have HV' : Hid (Rd w (.slice a L c) g) := by rw [hL]; exact HV.out
  clear hL HV hv hg
  go_enter Try.func50, Try.ntmps50
  go_wp2
  go_loop [3, 7] (fun s i => ∃ k X : Nat, k ≤ L ∧ i = .int .i64 k ∧ s = .int .i64 X ∧ X ≤ 4095 ∧ Hid (X = mask (leafB g) k)) (fun _ i => L - (intOf i).toNat)
  case atStart => exact ⟨0, 0, Nat.zero_le _, rfl, rfl, by omega, rfl⟩
  case round =>
    obtain ⟨k, X, hk, rfl, rfl, hX, HX⟩ := hrel
    by_cases hlt : k < L
    · have HDg := Lib.hid (degree_c (.slice a L c) g k w HV'.out HG.out (by rw [← HL.out]; exact hlt))
      by_cases hd : deg g k = 1
      · have f1 : (((deg g k : Nat) : Int) == 1) = true := by rw [hd]; rfl
        obtain ⟨p, hp, hp1, hp2, hp3⟩ := pow_var k (by omega)
        have hp4 : p ≤ 2048 := by rw [← hp]; exact (Nat.pow_le_pow_right (by omega) (by omega) : 2 ^ k ≤ 2 ^ 11)
        have e0 : min k 64 = k := by omega
        have e1 := bits_or X p (by omega) (by omega)
        have hb4 : bor X p ≤ 4095 := by have := bor_lt (x := X) (y := p) (n := 12) (by omega) (by omega); omega
        have HN : Hid (bor X p = mask (leafB g) (k + 1)) := by unfold Hid; rw [HX.out, ← hp]; show _ = (if leafB g k then _ else _); rw [show leafB g k = true from by unfold leafB; rw [hd]; rfl]; rfl
        generalize bor X p = Y at e1 hb4 HN
        clear hd hp
        go_wp2_with (go_at_call 91; refine HDg.out.mono ?_; rintro e w' ⟨rfl, rfl⟩)
        go_round
        case rel => exact ⟨k + 1, Y, by omega, by go_num, rfl, hb4, HN⟩
        case measure => simp [intOf]; omega
      · have f1 : (((deg g k : Nat) : Int) == 1) = false := by simp; omega
        have HN : Hid (X = mask (leafB g) (k + 1)) := by unfold Hid; rw [HX.out]; show _ = (if leafB g k then _ else _); rw [show leafB g k = false from by unfold leafB; rw [decide_eq_false hd]]; rfl
        clear hd
        go_wp2_with (go_at_call 91; refine HDg.out.mono ?_; rintro e w' ⟨rfl, rfl⟩)
        go_round
        case rel => exact ⟨k + 1, X, by omega, by go_num, rfl, hX, HN⟩
        case measure => simp [intOf]; omega
    · obtain rfl : k = L := by omega
      go_wp2
      go_ret
      exact ⟨ret_int (by rw [HX.out, HE.out]), rfl⟩

set_option maxHeartbeats 1000000 in
theorem treeLeavesI_c (v : Value) (g : List Int) (w : World) (hv : Rd w v g) (hm : g.length ≤ 1048576) (hb : ∀ i, getI g i < 9223372036854775808) :
    Calls Try.prog 15 #[v] w fun e w' => e = .returned (pairV (treeLeaves g)) ∧ Ext w w' := by
  have HV := Lib.hid hv
  have HC := Lib.hid (treeInI_c v g w hv hm hb)
  obtain ⟨a, c, rfl⟩ := hv.form
  clear hv hm hb
  cases h0 : treeB g
  · rw [h0] at HC
    rw [show treeLeaves g = (0, false) from by unfold treeLeaves; rw [h0]; rfl]
    clear h0
    go_enter Try.func15, Try.ntmps15
    go_wp2_with fail
    refine HC.out.mono ?_
    rintro e w1 ⟨rfl, x1⟩
    have X1 := Lib.hid x1; clear x1
    go_wp2
    go_ret2
    exact ⟨rfl, X1.out⟩
  · rw [h0] at HC
    have HG := Lib.hid (tree_of h0).graph
    rw [show treeLeaves g = (((leavesN g : Nat) : Int), true) from by unfold treeLeaves; rw [h0]; rfl]
    clear h0
    go_enter Try.func15, Try.ntmps15
    go_wp2_with fail
    refine HC.out.mono ?_
    rintro e w1 ⟨rfl, x1⟩
    have X1 := Lib.hid x1; clear x1
    go_wp2_with fail
    refine (leaves_c _ g w1 (HV.out.ext X1.out) HG.out).mono ?_
    rintro e w' ⟨rfl, rfl⟩
    go_wp2
    go_ret2
    exact ⟨rfl, X1.out⟩
end Go.Proofs.Ytpmammklklkheaa

/- The way from a leaf to its fork, as the programs go it: plain. No condition. -/
namespace Go.Proofs.Ytpmammklklkheaa

/-- What a search for the fork of l gives: the fork, or -1 for none. -/
def IsFork (g : List Int) (l : Nat) (r : Int) : Prop := (∃ f : Nat, r = f ∧ f ≤ 11 ∧ Fork g l f) ∨ (r = -1 ∧ ∀ f, ¬ Fork g l f)
/-- Where the search stands. -/
def At (g : List Int) (l k : Nat) (last : Int) (x : Nat) : Prop := (k = 0 ∧ last = -1 ∧ x = l ∧ deg g l = 1) ∨ ∃ j u : Nat, k = j + 1 ∧ last = u ∧ Leg g l j u x
/-- Where it may go on. -/
def Cand (g : List Int) (last : Int) (x z : Nat) : Prop := adj g x z ∧ (z : Int) ≠ last
theorem At.next {g : List Int} (hg : IsGraph g) {l k : Nat} {last : Int} {x z : Nat} (h : At g l k last x) (hd : deg g x ≤ 2) (hc : Cand g last x z) : Leg g l k x z := by
  obtain ⟨h1, h2⟩ := hc
  rcases h with ⟨rfl, rfl, rfl, h3⟩ | ⟨j, u, rfl, rfl, h3⟩
  · exact ⟨rfl, h3, h1⟩
  · have hzu : z ≠ u := fun e => h2 (by rw [e])
    refine ⟨⟨u, h3, hzu⟩, ?_, h1⟩
    have q1 := bits_drop (hg.small x) h1
    have q2 := bits_pos q1.2.1 ((q1.2.2 u).2 ⟨adj_symm hg (leg_adj h3), fun e => hzu e.symm⟩)
    unfold deg at hd ⊢
    omega
theorem At.stop {g : List Int} (hg : IsGraph g) {l k : Nat} {last : Int} {x : Nat} (h : At g l k last x) (hd : deg g x ≤ 2) (hn : ∀ z, ¬ Cand g last x z) (f : Nat) : ¬ Fork g l f := by
  rcases h with ⟨rfl, rfl, rfl, h3⟩ | ⟨j, u, rfl, rfl, h3⟩
  · obtain ⟨a, ha⟩ := bits_some (hg.small x) (show cnt (gN g x) ≠ 0 by unfold deg at h3; omega)
    exact absurd ⟨ha, by omega⟩ (hn a)
  · rintro ⟨k, u', h4, h5⟩
    have hx1 : deg g x < 2 := by
      rcases Nat.lt_or_ge (deg g x) 2 with h | h
      · exact h
      · obtain ⟨b, hb, hbu⟩ := bits_other (hg.small x) h (adj_symm hg (leg_adj h3))
        exact absurd ⟨hb, fun e => hbu (by omega)⟩ (hn b)
    rcases Nat.lt_trichotomy k j with h | h | h
    · obtain ⟨a, b, h6, h7⟩ := leg_less h3 h
      obtain ⟨-, rfl⟩ := leg_det hg h4 h6
      omega
    · subst h
      obtain ⟨-, rfl⟩ := leg_det hg h3 h4
      omega
    · obtain ⟨a, b, h6, h7⟩ := leg_less h4 h
      obtain ⟨-, rfl⟩ := leg_det hg h3 h6
      omega
theorem At.step {g : List Int} {l k x z : Nat} (h : Leg g l k x z) : At g l (k + 1) x z := .inr ⟨k, x, rfl, rfl, h⟩
theorem At.fork {g : List Int} {l k : Nat} {last : Int} {x : Nat} (h : At g l k last x) (hd : 3 ≤ deg g x) : Fork g l x := by
  rcases h with ⟨rfl, rfl, rfl, h3⟩ | ⟨j, u, rfl, rfl, h3⟩
  · omega
  · exact ⟨j, u, h3, hd⟩
theorem At.dist {g : List Int} (ht : IsTree g) {l k : Nat} {last : Int} {x : Nat} (h : At g l k last x) : dd g x l = k := by
  rcases h with ⟨rfl, rfl, rfl, h3⟩ | ⟨j, u, rfl, rfl, h3⟩
  · exact dd_self ht.graph x
  · exact (leg_dist ht h3).2
theorem At.lt {g : List Int} (hg : IsGraph g) {l k : Nat} {last : Int} {x : Nat} (h : At g l k last x) (hl : l < g.length) : x < g.length := by
  rcases h with ⟨rfl, rfl, rfl, h3⟩ | ⟨j, u, rfl, rfl, h3⟩
  · exact hl
  · exact (adj_lt hg (leg_adj h3)).2
theorem At.leaf {g : List Int} {l k : Nat} {last : Int} {x : Nat} (h : At g l k last x) : deg g l = 1 := by
  rcases h with ⟨rfl, rfl, rfl, h3⟩ | ⟨j, u, rfl, rfl, h3⟩
  · exact h3
  · exact leg_leaf h3
/-- The nodes that the search has left behind. -/
def Been (g : List Int) (l k S : Nat) : Prop := ∀ z, S.testBit z = true ↔ ∃ j m, j < k ∧ Leg g l j z m
theorem Been.start (g : List Int) (l : Nat) : Been g l 0 0 := fun z => by
  rw [Nat.zero_testBit]
  constructor
  · intro h; cases h
  · rintro ⟨j, m, h, -⟩; omega
/-- The neighbours that it has not left behind. -/
theorem Been.cand {g : List Int} (ht : IsTree g) {l k S : Nat} {last : Int} {x : Nat} (hb : Been g l k S) (h : At g l k last x) (ll : l < g.length) (z : Nat) : (without (gN g x) (bor S (2 ^ x))).testBit z = true ↔ Cand g last x z := by
  have hG := ht.graph
  rw [testBit_without, testBit_bor, Nat.testBit_two_pow, Bool.and_eq_true, Bool.not_eq_true', Bool.or_eq_false_iff, decide_eq_false_iff_not]
  constructor
  · rintro ⟨h1, h2, h3⟩
    refine ⟨h1, fun e => ?_⟩
    rcases h with ⟨rfl, rfl, rfl, h4⟩ | ⟨j, u, rfl, rfl, h4⟩
    · omega
    · obtain rfl : z = u := by omega
      rw [(hb z).2 ⟨j, x, by omega, h4⟩] at h2
      cases h2
  · rintro ⟨h1, h2⟩
    refine ⟨h1, ?_, fun e => adj_ne hG h1 e⟩
    cases hS : S.testBit z
    · rfl
    · exfalso
      obtain ⟨j, m, hj, hL⟩ := (hb z).1 hS
      have d1 := (leg_dist ht hL).1
      have d2 := h.dist ht
      have d3 := ht.step ll h1
      rcases h with ⟨rfl, rfl, rfl, h4⟩ | ⟨i, u, rfl, rfl, h4⟩
      · omega
      · obtain rfl : j = i := by omega
        obtain ⟨rfl, -⟩ := leg_det hG hL h4
        exact h2 rfl
theorem Been.step {g : List Int} {l k S x m : Nat} (hg : IsGraph g) (hb : Been g l k S) (h : Leg g l k x m) : Been g l (k + 1) (bor S (2 ^ x)) := fun z => by
  rw [testBit_bor, Bool.or_eq_true, hb z, Nat.testBit_two_pow, decide_eq_true_iff]
  constructor
  · rintro (⟨j, m', h1, h2⟩ | rfl)
    · exact ⟨j, m', by omega, h2⟩
    · exact ⟨k, m, by omega, h⟩
  · rintro ⟨j, m', h1, h2⟩
    by_cases e : j = k
    · subst e; exact .inr (leg_det hg h h2).1
    · exact .inl ⟨j, m', by omega, h2⟩
theorem Been.fresh {g : List Int} (ht : IsTree g) {l k S : Nat} {last : Int} {x : Nat} (hb : Been g l k S) (h : At g l k last x) : S.testBit x = false := by
  cases hS : S.testBit x
  · rfl
  · exfalso
    obtain ⟨j, m, hj, hL⟩ := (hb x).1 hS
    have d1 := (leg_dist ht hL).1
    have d2 := h.dist ht
    omega
theorem bor_grow {S x : Nat} (h : S.testBit x = false) : S + 1 ≤ bor S (2 ^ x) := by
  have h1 : S ≤ bor S (2 ^ x) := Nat.left_le_or
  have h2 : S ≠ bor S (2 ^ x) := fun e => by
    have : S.testBit x = (bor S (2 ^ x)).testBit x := by rw [← e]
    rw [testBit_bor, Nat.testBit_two_pow, h, decide_eq_true rfl] at this
    cases this
  omega
/-- The forks of the leaves below k. -/
def ForksTo (g : List Int) (k X : Nat) : Prop := ∀ f, X.testBit f = true ↔ ∃ l, l < k ∧ Fork g l f
theorem ForksTo.start (g : List Int) : ForksTo g 0 0 := fun f => by
  rw [Nat.zero_testBit]
  constructor
  · intro h; cases h
  · rintro ⟨l, h, -⟩; omega
theorem ForksTo.skip {g : List Int} {k X : Nat} (h : ForksTo g k X) (hn : ∀ f, ¬ Fork g k f) : ForksTo g (k + 1) X := fun f => by
  rw [h f]
  constructor
  · rintro ⟨l, h1, h2⟩; exact ⟨l, by omega, h2⟩
  · rintro ⟨l, h1, h2⟩
    by_cases e : l = k
    · subst e; exact absurd h2 (hn f)
    · exact ⟨l, by omega, h2⟩
theorem ForksTo.more {g : List Int} (hg : IsGraph g) {k X f : Nat} (h : ForksTo g k X) (hf : Fork g k f) : ForksTo g (k + 1) (bor X (2 ^ f)) := fun z => by
  rw [testBit_bor, Bool.or_eq_true, h z, Nat.testBit_two_pow, decide_eq_true_iff]
  constructor
  · rintro (⟨l, h1, h2⟩ | rfl)
    · exact ⟨l, by omega, h2⟩
    · exact ⟨k, by omega, hf⟩
  · rintro ⟨l, h1, h2⟩
    by_cases e : l = k
    · subst e; exact .inr (fork_uniq hg hf h2)
    · exact .inl ⟨l, by omega, h2⟩
theorem ForksTo.end {g : List Int} (hg : IsGraph g) {X : Nat} (h : ForksTo g g.length X) : X = forksN g := by
  apply Nat.eq_of_testBit_eq
  intro f
  rw [Bool.eq_iff_iff, h f, forks_bit hg]
  constructor
  · rintro ⟨l, -, h1⟩; exact ⟨l, h1⟩
  · rintro ⟨l, h1⟩
    exact ⟨l, (leaves_bit.1 (fork_leaf hg h1)).1, h1⟩
theorem no_leaf {g : List Int} (hg : IsGraph g) {l : Nat} (h : (leavesN g).testBit l = false) (f : Nat) : ¬ Fork g l f := fun hf => by
  rw [fork_leaf hg hf] at h
  cases h
/-- What the search for a next node has found among the nodes below q. -/
def Nx (g : List Int) (last : Int) (x q : Nat) (z : Int) : Prop := (z = -1 ∧ ∀ j, j < q → ¬ Cand g last x j) ∨ ∃ y : Nat, z = y ∧ y < q ∧ Cand g last x y
theorem Nx.skip {g : List Int} {last : Int} {x q : Nat} {z : Int} (h : Nx g last x q z) (hn : ¬ Cand g last x q) : Nx g last x (q + 1) z := by
  rcases h with ⟨h1, h2⟩ | ⟨y, h1, h2, h3⟩
  · exact .inl ⟨h1, fun j hj => by
      by_cases e : j = q
      · subst e; exact hn
      · exact h2 j (by omega)⟩
  · exact .inr ⟨y, h1, by omega, h3⟩
theorem Nx.none {g : List Int} (hg : IsGraph g) {last : Int} {x : Nat} (h : Nx g last x g.length (-1)) (z : Nat) : ¬ Cand g last x z := by
  rcases h with ⟨-, h2⟩ | ⟨y, h1, -, -⟩
  · intro hc
    exact h2 z (adj_lt hg hc.1).2 hc
  · omega
end Go.Proofs.Ytpmammklklkheaa
