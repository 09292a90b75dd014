/- What the walks of this seat rest on, one part: plain facts, and contracts of the functions that they reach. Each states its own condition. -/
import Derived.Test.YtkmfmhckpfomeaaGreatDoorB16
import Derived.Test.YtkmfmhckpfomeaaGreatDoorB6
import Derived.Test.YtkmfmhckpfomeaaGreatDoorB5
import Derived.Test.YtkmfmhckpfomeaaGreatDoorB10
set_option linter.all false
set_option linter.unusedSimpArgs false
set_option linter.unusedVariables false
/- A tree's least resolving code has as many nodes as leaves and forks tell; what a tree is by its edges: plain. No condition. -/
namespace Go.Proofs.YtkmfmhckpfomeaaGreatDoor

theorem max_of {P : Nat → Prop} : ∀ n, (∃ l, P l) → (∀ l, P l → l < n) → ∃ l, P l ∧ ∀ l', P l' → l' ≤ l
  | 0, ⟨l, h⟩, hb => absurd (hb l h) (Nat.not_lt_zero l)
  | n + 1, h, hb => by
    by_cases e : P n
    · exact ⟨n, e, fun l' h' => by have := hb l' h'; omega⟩
    · exact max_of n h fun l hl => by
        have := hb l hl
        by_cases e' : l = n
        · subst e'; exact absurd hl e
        · omega
/-- Without a fork the way from a leaf meets all nodes. -/
theorem all_on_leg {g : List Int} (ht : IsTree g) {l : Nat} (hl : deg g l = 1) (ll : l < g.length) (hn : ∀ f, ¬ Fork g l f) : ∀ k v, v < g.length → dd g v l = k + 1 → ∃ u, Leg g l k u v
  | 0, v, lv, hd => by
    have hG := ht.graph
    have hvl : v ≠ l := fun e => by rw [e, dd_self hG] at hd; omega
    exact ⟨l, rfl, hl, adj_symm hG ((dd_one hG hvl).1 hd)⟩
  | k + 1, v, lv, hd => by
    have hG := ht.graph
    have hvl : v ≠ l := fun e => by rw [e, dd_self hG] at hd; omega
    obtain ⟨z, z1, z2, -⟩ := ht.next l v ll lv hvl
    obtain ⟨u, hu⟩ := all_on_leg ht hl ll hn k z (adj_lt hG z1).2 (by omega)
    have du := leg_dist ht hu
    have hvu : v ≠ u := fun e => by rw [← e] at du; omega
    have h3 : ¬ 3 ≤ deg g z := fun h => hn z ⟨k, u, hu, h⟩
    have q1 := bits_drop (hG.small z) (adj_symm hG z1)
    have q2 := bits_pos q1.2.1 ((q1.2.2 u).2 ⟨adj_symm hG (leg_adj hu), fun e => hvu e.symm⟩)
    refine ⟨z, ⟨u, hu, hvu⟩, ?_, adj_symm hG z1⟩
    unfold deg at h3 ⊢
    omega
theorem leaf_fork {g : List Int} (ht : IsTree g) {l f : Nat} (hl : deg g l = 1) (ll : l < g.length) (hf : 3 ≤ deg g f) : ∃ f, Fork g l f := by
  by_cases h : ∃ f, Fork g l f
  · exact h
  · exfalso
    have hG := ht.graph
    have hfl : f ≠ l := fun e => by subst e; omega
    have lf : f < g.length := by
      by_cases e : f < g.length
      · exact e
      · unfold deg at hf
        rw [gN_out (by omega)] at hf
        exact absurd hf (by decide)
    have h0 : dd g f l ≠ 0 := fun e => hfl ((dd_zero hG).1 e).symm
    obtain ⟨u, hu⟩ := all_on_leg ht hl ll (fun f' hf' => h ⟨f', hf'⟩) (dd g f l - 1) f lf (by omega)
    exact h ⟨f, _, u, hu, hf⟩
/-! ### A least one -/
noncomputable def lowB (g : List Int) (l : Nat) : Bool := @decide (∃ l' f, Fork g l f ∧ Fork g l' f ∧ l < l') (Classical.propDecidable _)
noncomputable def lowN (g : List Int) : Nat := mask (lowB g) g.length
theorem low_bit {g : List Int} (hg : IsGraph g) {l : Nat} : (lowN g).testBit l = true ↔ ∃ l' f, Fork g l f ∧ Fork g l' f ∧ l < l' := by
  unfold lowN lowB
  rw [mask_bit, Bool.and_eq_true, decide_eq_true_iff, @decide_eq_true_iff _ (Classical.propDecidable _)]
  constructor
  · exact fun h => h.2
  · rintro ⟨l', f, h1, h2, h3⟩
    exact ⟨(leaves_bit.1 (fork_leaf hg h1)).1, l', f, h1, h2, h3⟩
theorem low_full {g : List Int} (hg : IsGraph g) : Full g (lowN g) := fun l l' f h h' hne => by
  rcases Nat.lt_or_ge l l' with h1 | h1
  · exact .inl ((low_bit hg).2 ⟨l', f, h, h', h1⟩)
  · exact .inr ((low_bit hg).2 ⟨l, f, h', h, by omega⟩)
theorem low_cnt {g : List Int} (hg : IsGraph g) : cnt (lowN g) + cnt (forksN g) ≤ cnt (leavesN g) := by
  have h1 := cnt_split (leavesN g) (lowN g)
  have e : band (leavesN g) (lowN g) = lowN g := by
    apply Nat.eq_of_testBit_eq
    intro i
    rw [testBit_band]
    cases h : (lowN g).testBit i
    · rw [Bool.and_false]
    · obtain ⟨l', f, h2, -⟩ := (low_bit hg).1 h
      rw [fork_leaf hg h2]; rfl
  rw [e] at h1
  have hch : ∀ f, (∃ l, Fork g l f) → ∃ l, Fork g l f ∧ ∀ l', Fork g l' f → l' ≤ l := fun f h =>
    max_of g.length h fun l hl => (leaves_bit.1 (fork_leaf hg hl)).1
  have h2 : cnt (forksN g) ≤ cnt (without (leavesN g) (lowN g)) := by
    refine cnt_inject (fun f => @dite _ (∃ l, Fork g l f) (Classical.propDecidable _) (fun h => Classical.choose (hch f h)) (fun _ => 0)) 12 _ _ (cnt_le _) (forks_small hg) (without_le _ _ (leaves_small hg)) (fun f hf => ?_) (fun f f' hf hf' e => ?_)
    · have h := (forks_bit hg).1 hf
      simp only [dif_pos h]
      obtain ⟨c1, c2⟩ := Classical.choose_spec (hch f h)
      rw [testBit_without, fork_leaf hg c1, Bool.true_and, Bool.not_eq_true']
      cases hb : (lowN g).testBit (Classical.choose (hch f h))
      · rfl
      · obtain ⟨l', f', k1, k2, k3⟩ := (low_bit hg).1 hb
        obtain rfl := fork_uniq hg c1 k1
        have := c2 l' k2
        omega
    · have h := (forks_bit hg).1 hf
      have h' := (forks_bit hg).1 hf'
      simp only [dif_pos h, dif_pos h'] at e
      have c1 := (Classical.choose_spec (hch f h)).1
      have c2 := (Classical.choose_spec (hch f' h')).1
      rw [e] at c1
      exact fork_uniq hg c1 c2
  omega
theorem low_leaf {g : List Int} (hg : IsGraph g) {s : Nat} (h : (lowN g).testBit s = true) : deg g s = 1 := by
  obtain ⟨l', f, h2, -⟩ := (low_bit hg).1 h
  exact (leaves_bit.1 (fork_leaf hg h2)).2
/-! ### No smaller one -/
theorem res_cnt {g : List Int} (ht : IsTree g) {R f : Nat} (hR : resN g R = true) (hRn : R < 2 ^ g.length) (hf : 3 ≤ deg g f) : cnt (leavesN g) ≤ cnt R + cnt (forksN g) := by
  have hG := ht.graph
  have hp := pow_le_12 hG.le
  let hit : Nat → Prop := fun l => ∃ c, R.testBit c = true ∧ ∃ k w, Leg g l k c w
  let H : Nat := mask (fun l => leafB g l && @decide (hit l) (Classical.propDecidable _)) g.length
  have Hb : ∀ l, H.testBit l = true ↔ (l < g.length ∧ deg g l = 1) ∧ hit l := fun l => by
    show (mask _ _).testBit l = true ↔ _
    rw [mask_bit, Bool.and_eq_true, Bool.and_eq_true, decide_eq_true_iff, @decide_eq_true_iff _ (Classical.propDecidable _)]
    unfold leafB
    rw [decide_eq_true_iff, and_assoc]
  have h4 : H ≤ 4095 := mask_small hG.le
  have h1 := cnt_split (leavesN g) H
  have e : band (leavesN g) H = H := by
    apply Nat.eq_of_testBit_eq
    intro i
    rw [testBit_band]
    cases h : H.testBit i
    · rw [Bool.and_false]
    · rw [leaves_bit.2 ((Hb i).1 h).1]; rfl
  rw [e] at h1
  have h2 : cnt H ≤ cnt R := by
    refine cnt_inject (fun l => @dite _ (hit l) (Classical.propDecidable _) (fun h => Classical.choose h) (fun _ => 0)) 12 _ _ (cnt_le _) h4 (by omega) (fun l hl => ?_) (fun l l' hl hl' e => ?_)
    · have h := ((Hb l).1 hl).2
      simp only [dif_pos h]
      exact (Classical.choose_spec h).1
    · have h := ((Hb l).1 hl).2
      have h' := ((Hb l').1 hl').2
      simp only [dif_pos h, dif_pos h'] at e
      obtain ⟨k, w, c1⟩ := (Classical.choose_spec h).2
      obtain ⟨k', w', c2⟩ := (Classical.choose_spec h').2
      rw [e] at c1
      obtain ⟨f1, hf1⟩ := leaf_fork ht ((Hb l).1 hl).1.2 ((Hb l).1 hl).1.1 hf
      obtain ⟨f2, hf2⟩ := leaf_fork ht ((Hb l').1 hl').1.2 ((Hb l').1 hl').1.1 hf
      exact leg_apart hG hf1 hf2 c1 c2
  have h3 : cnt (without (leavesN g) H) ≤ cnt (forksN g) := by
    have hK : ∀ l, (without (leavesN g) H).testBit l = true → (l < g.length ∧ deg g l = 1) ∧ ¬ hit l := fun l hl => by
      rw [testBit_without, Bool.and_eq_true, Bool.not_eq_true'] at hl
      have h1 := leaves_bit.1 hl.1
      exact ⟨h1, fun h => by rw [(Hb l).2 ⟨h1, h⟩] at hl; exact absurd hl.2 (by decide)⟩
    refine cnt_inject (fun l => @dite _ (∃ f, Fork g l f) (Classical.propDecidable _) (fun h => Classical.choose h) (fun _ => 0)) 12 _ _ (cnt_le _) (without_le _ _ (leaves_small hG)) (forks_small hG) (fun l hl => ?_) (fun l l' hl hl' e => ?_)
    · have h := leaf_fork ht (hK l hl).1.2 (hK l hl).1.1 hf
      simp only [dif_pos h]
      exact (forks_bit hG).2 ⟨l, Classical.choose_spec h⟩
    · have h := leaf_fork ht (hK l hl).1.2 (hK l hl).1.1 hf
      have h' := leaf_fork ht (hK l' hl').1.2 (hK l' hl').1.1 hf
      simp only [dif_pos h, dif_pos h'] at e
      have c1 := Classical.choose_spec h
      have c2 := Classical.choose_spec h'
      rw [e] at c1
      obtain ⟨k1, u1, L1, hd1⟩ := c1
      obtain ⟨k2, u2, L2, hd2⟩ := c2
      by_cases hu : u1 = u2
      · subst hu; exact (leg_inj hG L1 L2).1
      · exfalso
        have a1 := leg_adj L1
        have a2 := leg_adj L2
        obtain ⟨lu1, lf⟩ := adj_lt hG a1
        obtain ⟨lu2, -⟩ := adj_lt hG a2
        have hc : ∃ c, c < g.length ∧ R.testBit c = true ∧ dd g u1 c ≠ dd g u2 c := by
          rcases Nat.lt_or_ge u2 u1 with h5 | h5
          · exact resN_iff.1 hR u1 lu1 u2 h5
          · obtain ⟨c, q1, q2, q3⟩ := resN_iff.1 hR u2 lu2 u1 (by omega)
            exact ⟨c, q1, q2, fun e => q3 e.symm⟩
        obtain ⟨c, lc, hRc, hne⟩ := hc
        rcases ht.step lc (adj_symm hG a1) with s1 | s1
        · obtain ⟨k', w, hL⟩ := on_leg ht lc L1 (by omega)
          exact (hK l hl).2 ⟨c, hRc, k', w, hL⟩
        · rcases ht.step lc (adj_symm hG a2) with s2 | s2
          · obtain ⟨k', w, hL⟩ := on_leg ht lc L2 (by omega)
            exact (hK l' hl').2 ⟨c, hRc, k', w, hL⟩
          · omega
  omega
/-! ### Paths -/
theorem path_tells {g : List Int} (ht : IsTree g) {l : Nat} (hl : deg g l = 1) (ll : l < g.length) (hd : ∀ x, deg g x ≤ 2) : ∀ k x y, x < g.length → y < g.length → dd g x l = k → dd g y l = k → x = y
  | 0, x, y, _, _, h1, h2 => by rw [← (dd_zero ht.graph).1 h1, ← (dd_zero ht.graph).1 h2]
  | k + 1, x, y, lx, ly, h1, h2 => by
    have hG := ht.graph
    have hxl : x ≠ l := fun e => by rw [e, dd_self hG] at h1; omega
    have hyl : y ≠ l := fun e => by rw [e, dd_self hG] at h2; omega
    obtain ⟨a, a1, a2, -⟩ := ht.next l x ll lx hxl
    obtain ⟨b, b1, b2, -⟩ := ht.next l y ll ly hyl
    obtain rfl := path_tells ht hl ll hd k a b (adj_lt hG a1).2 (adj_lt hG b1).2 (by omega) (by omega)
    by_cases e : a = l
    · subst e
      exact bits_one (hG.small a) hl (adj_symm hG a1) (adj_symm hG b1)
    · obtain ⟨z, z1, z2, -⟩ := ht.next l a ll (adj_lt hG a1).2 e
      have hxz : x ≠ z := fun e' => by subst e'; omega
      have hyz : y ≠ z := fun e' => by subst e'; omega
      have q1 := bits_drop (hG.small a) z1
      have q2 := bits_pos q1.2.1 ((q1.2.2 x).2 ⟨adj_symm hG a1, hxz⟩)
      have q3 := hd a
      exact bits_two (hG.small a) (show cnt (gN g a) = 2 by unfold deg at q3; omega) z1 (adj_symm hG a1) (adj_symm hG b1) hxz hyz
theorem max_at (f : Nat → Nat) : ∀ n, 0 < n → ∃ v, v < n ∧ ∀ w, w < n → f w ≤ f v
  | 1, _ => ⟨0, by omega, fun w hw => by obtain rfl : w = 0 := by omega
                                         exact Nat.le_refl _⟩
  | n + 2, _ => by
    obtain ⟨v, h1, h2⟩ := max_at f (n + 1) (by omega)
    by_cases h : f (n + 1) ≤ f v
    · exact ⟨v, by omega, fun w hw => by
        by_cases e : w = n + 1
        · subst e; exact h
        · exact h2 w (by omega)⟩
    · exact ⟨n + 1, by omega, fun w hw => by
        by_cases e : w = n + 1
        · subst e; exact Nat.le_refl _
        · have := h2 w (by omega); omega⟩
/-- A tree of two nodes or more has a leaf. -/
theorem has_leaf {g : List Int} (ht : IsTree g) (hn : 2 ≤ g.length) : ∃ l, l < g.length ∧ deg g l = 1 := by
  have hG := ht.graph
  obtain ⟨v, h1, h2⟩ := max_at (fun v => dd g v 0) g.length (by omega)
  have h3 := h2 1 (by omega)
  have h10 : dd g 1 0 ≠ 0 := fun e => by have := (dd_zero hG).1 e; omega
  have hv : v ≠ 0 := fun e => by
    subst e
    simp only [dd_self hG] at h3
    omega
  obtain ⟨z, z1, z2, z3⟩ := ht.next 0 v (by omega) h1 hv
  refine ⟨v, h1, ?_⟩
  obtain ⟨q1, q2, q3⟩ := bits_drop (hG.small v) z1
  by_cases e : cnt (without (gN g v) (2 ^ z)) = 0
  · unfold deg; omega
  · obtain ⟨b, hb⟩ := bits_some q2 e
    obtain ⟨b1, b2⟩ := (q3 b).1 hb
    have := z3 b b1 b2
    have := h2 b (adj_lt hG b1).2
    omega
/-! ### The number -/
noncomputable def treeNum (g : List Int) : Nat := if g.length = 1 then 0 else if forksN g = 0 then 1 else cnt (leavesN g) - cnt (forksN g)
theorem least_is {g : List Int} (hg : IsGraph g) {T S : Nat} (hS : S < 2 ^ g.length) (h1 : resN g S = true) (h2 : cnt S ≤ T) (h3 : ∀ R, R < 2 ^ g.length → resN g R = true → T ≤ cnt R) : leastNumber g 3 = (((T : Nat) : Int), true) := by
  obtain ⟨b, hb, hbl, hbp, hbc⟩ := lo_has (p := kindN g 3) hS (by rw [kind3_eq]; exact h1)
  have h4 := h3 b hbl (by rw [← kind3_eq]; exact hbp)
  have e : cnt b = T := by omega
  rw [← e]
  exact least_of (K := 3) hg (by omega) hb
theorem tree_least {g : List Int} (ht : IsTree g) : leastNumber g 3 = (((treeNum g : Nat) : Int), true) := by
  have hG := ht.graph
  have hpos := hG.pos
  unfold treeNum
  by_cases hn : g.length = 1
  · rw [if_pos hn]
    refine least_is hG (S := 0) (Nat.two_pow_pos _) ?_ (by decide) (fun _ _ _ => Nat.zero_le _)
    rw [resN_iff]
    intro i hi k hk
    omega
  · rw [if_neg hn]
    by_cases hf : forksN g = 0
    · rw [if_pos hf]
      have hd : ∀ x, deg g x ≤ 2 := fun x => by
        rcases Nat.lt_or_ge (deg g x) 3 with h | h
        · omega
        · exfalso
          obtain ⟨s, -, hs⟩ := full_some (S := 0) ht (fun l l' f h1 _ _ => by
            have := (forks_bit hG).2 ⟨l, h1⟩
            rw [hf, Nat.zero_testBit] at this
            cases this) h
          rw [Nat.zero_testBit] at hs
          cases hs
      obtain ⟨l, ll, hl⟩ := has_leaf ht (by omega)
      refine least_is hG (S := 2 ^ l) (Nat.pow_lt_pow_right (by omega) ll) ?_ (by rw [cnt_two_pow l (by have := hG.le; omega)]; exact Nat.le_refl _) (fun R hR hr => ?_)
      · rw [resN_iff]
        intro i hi k hk
        refine ⟨l, ll, by rw [Nat.testBit_two_pow, decide_eq_true rfl], fun e => ?_⟩
        have := path_tells ht hl ll hd _ i k hi (by omega) rfl e.symm
        omega
      · obtain ⟨c, -, hc, -⟩ := resN_iff.1 hr 1 (by omega) 0 (by omega)
        exact bits_pos (by have := pow_le_12 hG.le; omega) hc
    · rw [if_neg hf]
      obtain ⟨f, hf'⟩ := bits_some (forks_small hG) (fun e => hf ((cnt_zero (forks_small hG)).1 e))
      have h3 := forks_deg hG hf'
      have h4 := low_cnt hG
      exact least_is hG (S := lowN g) (mask_lt _ _) (full_res ht (low_full hG) h3 (fun s hs => low_leaf hG hs) (mask_lt _ _)) (by omega) (fun R hR hr => by
        have := res_cnt ht hr hR h3
        omega)
end Go.Proofs.YtkmfmhckpfomeaaGreatDoor

/- A connected graph with one edge less than nodes is a tree: plain, by counting. No condition. -/
namespace Go.Proofs.YtkmfmhckpfomeaaGreatDoor

def sumTo (f : Nat → Nat) : Nat → Nat
  | 0 => 0
  | k + 1 => sumTo f k + f k
theorem sumTo_congr {f h : Nat → Nat} : ∀ {n : Nat}, (∀ x, x < n → f x = h x) → sumTo f n = sumTo h n
  | 0, _ => rfl
  | n + 1, e => by
    unfold sumTo
    rw [sumTo_congr (n := n) (fun x hx => e x (by omega)), e n (by omega)]
theorem sumTo_add (f h : Nat → Nat) : ∀ n, sumTo (fun x => f x + h x) n = sumTo f n + sumTo h n
  | 0 => rfl
  | n + 1 => by
    have := sumTo_add f h n
    unfold sumTo
    omega
theorem sumTo_zero : ∀ n, sumTo (fun _ => 0) n = 0
  | 0 => rfl
  | n + 1 => by unfold sumTo; rw [sumTo_zero n]
theorem sumTo_swap (F : Nat → Nat → Nat) (m : Nat) : ∀ n, sumTo (fun x => sumTo (fun z => F x z) m) n = sumTo (fun z => sumTo (fun x => F x z) n) m
  | 0 => by
    show 0 = sumTo (fun _ => 0) m
    rw [sumTo_zero]
  | n + 1 => by
    have e : sumTo (fun z => sumTo (fun x => F x z) (n + 1)) m = sumTo (fun z => sumTo (fun x => F x z) n + F n z) m := rfl
    rw [e, sumTo_add, ← sumTo_swap F m n]
    rfl
theorem sumTo_le {f h : Nat → Nat} : ∀ {n : Nat}, (∀ x, x < n → h x ≤ f x) → sumTo h n ≤ sumTo f n
  | 0, _ => Nat.le_refl _
  | n + 1, e => by
    have h1 := sumTo_le (n := n) fun x hx => e x (by omega)
    have h2 := e n (by omega)
    unfold sumTo
    omega
theorem sum_tight {f h : Nat → Nat} : ∀ {n : Nat}, (∀ x, x < n → h x ≤ f x) → sumTo f n ≤ sumTo h n → ∀ x, x < n → f x = h x
  | 0, _, _, x, hx => absurd hx (Nat.not_lt_zero x)
  | n + 1, e, hs, x, hx => by
    have h1 := sumTo_le (n := n) fun x hx => e x (by omega)
    have h2 := e n (by omega)
    unfold sumTo at hs
    by_cases e' : x = n
    · subst e'; omega
    · exact sum_tight (n := n) (fun x hx => e x (by omega)) (by omega) x (by omega)
theorem sumTo_count (p : Nat → Bool) : ∀ n, sumTo (fun i => (p i).toNat) n = (List.range n).countP p
  | 0 => rfl
  | n + 1 => by
    have e : sumTo (fun i => (p i).toNat) (n + 1) = sumTo (fun i => (p i).toNat) n + (p n).toNat := rfl
    rw [e, List.range_succ, List.countP_append, ← sumTo_count p n]
    cases h : p n <;> simp [h]
theorem sum_one {p : Nat → Bool} {n a : Nat} (ha : a < n) (h : p a = true) : 1 ≤ sumTo (fun i => (p i).toNat) n := by
  rw [sumTo_count]
  have : 0 < (List.range n).countP p := List.countP_pos_iff.2 ⟨a, List.mem_range.2 ha, h⟩
  omega
theorem sum_two {p : Nat → Bool} : ∀ {n a b : Nat}, a < b → b < n → p a = true → p b = true → 2 ≤ sumTo (fun i => (p i).toNat) n
  | 0, a, b, _, h, _, _ => absurd h (Nat.not_lt_zero b)
  | n + 1, a, b, hab, hb, ha, hpb => by
    unfold sumTo
    by_cases e : b = n
    · subst e
      have := sum_one (p := p) hab ha
      rw [hpb]
      show 2 ≤ _ + 1
      omega
    · have := sum_two (n := n) hab (by omega) ha hpb
      omega
theorem sum_two' {p : Nat → Bool} {n a b : Nat} (hab : a ≠ b) (la : a < n) (lb : b < n) (ha : p a = true) (hb : p b = true) : 2 ≤ sumTo (fun i => (p i).toNat) n := by
  rcases Nat.lt_or_ge a b with h | h
  · exact sum_two h lb ha hb
  · exact sum_two (show b < a by omega) la hb ha
theorem sum_but (v : Nat) : ∀ n, sumTo (fun x => if x = v then 0 else 1) n = if v < n then n - 1 else n
  | 0 => rfl
  | n + 1 => by
    have := sum_but v n
    unfold sumTo
    rw [this]
    by_cases e : n = v
    · subst e
      rw [if_neg (Nat.lt_irrefl n), if_pos rfl, if_pos (by omega)]
      omega
    · rw [if_neg e]
      by_cases h : v < n
      · rw [if_pos h, if_pos (by omega)]; omega
      · rw [if_neg h, if_neg (by omega)]
/-! ### What a tree is by its edges -/
def conB (g : List Int) : Bool := (List.range g.length).all fun y => decide (dd g 0 y ≠ 12)
def treeB (g : List Int) : Bool := graphIn g && conB g && decide (sumTo (deg g) g.length + 2 = 2 * g.length)
theorem reach_add {g : List Int} (hg : IsGraph g) {x y : Nat} {a : Nat} (h : (reach g x a).testBit y = true) : ∀ {b z : Nat}, (reach g y b).testBit z = true → (reach g x (a + b)).testBit z = true
  | 0, z, hz => by
    rw [reach_zero] at hz
    subst hz
    exact h
  | b + 1, z, hz => by
    rcases (reach_succ hg).1 hz with h1 | ⟨u, h1, h2⟩
    · exact (reach_succ hg).2 (.inl (reach_add hg h h1))
    · exact (reach_succ hg).2 (.inr ⟨u, reach_add hg h h1, h2⟩)
theorem con_fin {g : List Int} (hg : IsGraph g) (hc : conB g = true) {x y : Nat} (hx : x < g.length) (hy : y < g.length) : dd g x y ≤ 11 := by
  have hl := hg.le
  unfold conB at hc
  simp only [List.all_eq_true, List.mem_range, decide_eq_true_eq] at hc
  have h1 := hc x hx
  have h2 := hc y hy
  have h3 := dd_le g 0 x
  have h4 := dd_le g 0 y
  have r1 := reach_symm hg ((dd_iff hg (show dd g 0 x ≤ 11 by omega)).1 (Nat.le_refl _))
  have r2 := (dd_iff hg (show dd g 0 y ≤ 11 by omega)).1 (Nat.le_refl _)
  have r3 := reach_mono hg (show dd g 0 x + dd g 0 y ≤ 24 by omega) (reach_add hg r1 r2)
  rw [reach_end hg hx (show g.length - 1 ≤ 24 by omega)] at r3
  have := (dd_iff hg (show g.length - 1 ≤ 11 by omega)).2 r3
  omega
def clB (g : List Int) (v x z : Nat) : Bool := (gN g x).testBit z && decide (dd g z v < dd g x v)
def eqB (g : List Int) (v x z : Nat) : Bool := (gN g x).testBit z && decide (dd g z v = dd g x v)
theorem deg_sum {g : List Int} (hg : IsGraph g) (v x : Nat) : deg g x = sumTo (fun z => (clB g v x z).toNat) g.length + sumTo (fun z => (eqB g v x z).toNat) g.length + sumTo (fun z => (clB g v z x).toNat) g.length := by
  unfold deg
  rw [← cnt_range (hg.lt x) hg.le, ← sumTo_count, ← sumTo_add, ← sumTo_add]
  apply sumTo_congr
  intro z _
  unfold clB eqB
  rw [hg.sym z x]
  cases (gN g x).testBit z
  · rfl
  · simp only [Bool.true_and, Bool.toNat_true]
    rcases Nat.lt_trichotomy (dd g z v) (dd g x v) with h | h | h
    · rw [decide_eq_true h, decide_eq_false (show ¬ dd g z v = dd g x v by omega), decide_eq_false (show ¬ dd g x v < dd g z v by omega)]; rfl
    · rw [decide_eq_false (show ¬ dd g z v < dd g x v by omega), decide_eq_true h, decide_eq_false (show ¬ dd g x v < dd g z v by omega)]; rfl
    · rw [decide_eq_false (show ¬ dd g z v < dd g x v by omega), decide_eq_false (show ¬ dd g z v = dd g x v by omega), decide_eq_true h]; rfl
theorem tree_of {g : List Int} (h : treeB g = true) : IsTree g := by
  unfold treeB at h
  rw [Bool.and_eq_true, Bool.and_eq_true, decide_eq_true_iff] at h
  obtain ⟨⟨h1, hc⟩, he⟩ := h
  have hg := graphIn_iff.1 h1
  have hfin : ∀ x y, x < g.length → y < g.length → dd g x y ≤ 11 := fun x y hx hy => con_fin hg hc hx hy
  refine ⟨hg, hfin, fun v x hv hx hxv => ?_⟩
  let c : Nat → Nat := fun x => sumTo (fun z => (clB g v x z).toNat) g.length
  let e : Nat → Nat := fun x => sumTo (fun z => (eqB g v x z).toNat) g.length
  let d : Nat → Nat := fun x => sumTo (fun z => (clB g v z x).toNat) g.length
  have hs : sumTo (deg g) g.length = sumTo c g.length + sumTo e g.length + sumTo d g.length := by
    rw [← sumTo_add, ← sumTo_add]
    exact sumTo_congr fun x _ => deg_sum hg v x
  have hsw : sumTo c g.length = sumTo d g.length := sumTo_swap (fun x z => (clB g v x z).toNat) g.length g.length
  have hcl : ∀ x, x < g.length → x ≠ v → ∃ z, z < g.length ∧ clB g v x z = true := fun x hx hxv => by
    have h0 : dd g v x ≠ 0 := fun e => hxv ((dd_zero hg).1 e)
    have h11 := hfin v x hv hx
    obtain ⟨z, z1, z2⟩ := (dd_step hg (d := dd g v x - 1) (by omega) (by omega)).1 (show dd g v x = dd g v x - 1 + 1 by omega)
    refine ⟨z, bit_lt (hg.lt x) (by rw [hg.sym]; exact z2), ?_⟩
    unfold clB
    rw [hg.sym x z, z2, Bool.true_and, decide_eq_true_iff, dd_symm hg z v, dd_symm hg x v]
    omega
  have hlow : ∀ x, x < g.length → (if x = v then 0 else 1) ≤ c x := fun x hx => by
    by_cases e : x = v
    · rw [if_pos e]; omega
    · rw [if_neg e]
      obtain ⟨z, z1, z2⟩ := hcl x hx e
      exact sum_one z1 z2
  have hbut := sum_but v g.length
  rw [if_pos hv] at hbut
  have hle := sumTo_le hlow
  have htight := sum_tight hlow (by omega) x hx
  rw [if_neg hxv] at htight
  have he0 : sumTo e g.length = 0 := by omega
  have hex : e x = 0 := by
    have := sum_tight (f := e) (h := fun _ => 0) (n := g.length) (fun _ _ => Nat.zero_le _) (by rw [sumTo_zero]; omega) x hx
    exact this
  obtain ⟨z, lz, hz⟩ := hcl x hx hxv
  have hz' := hz
  unfold clB at hz'
  rw [Bool.and_eq_true, decide_eq_true_iff] at hz'
  refine ⟨z, hz'.1, ?_, fun z' hz1 hne => ?_⟩
  · have := near hg (show adj g x z from hz'.1) v
    omega
  · have lz' := (adj_lt hg hz1).2
    have n1 := near hg (adj_symm hg hz1) v
    have h2 : clB g v x z' = false := by
      cases e' : clB g v x z'
      · rfl
      · have := sum_two' (p := fun z => clB g v x z) hne lz' lz e' hz
        have : 2 ≤ c x := this
        omega
    have h3 : eqB g v x z' = false := by
      cases e' : eqB g v x z'
      · rfl
      · have : 1 ≤ e x := sum_one (p := fun z => eqB g v x z) lz' e'
        omega
    unfold clB at h2
    unfold eqB at h3
    unfold adj at hz1
    rw [hz1, Bool.true_and, decide_eq_false_iff_not] at h2 h3
    omega
end Go.Proofs.YtkmfmhckpfomeaaGreatDoor

/- The balls that the program gives for a graph. No condition. -/
namespace Go.Proofs.YtkmfmhckpfomeaaGreatDoor
open Go.RowKit
open BigFrame

theorem Own.slice {w : World} {base : Nat} {v : Value} {xs : List Int} (h : Own w base v xs) (h1 : 1 ≤ xs.length) : ∃ g c, v = .slice (some ⟨g, 0, none⟩) xs.length c := by
  rcases h.get with ⟨rfl, h2⟩ | ⟨g, c, rfl, -⟩
  · rw [h2] at h1; simp at h1
  · exact ⟨g, c, rfl⟩

end Go.Proofs.YtkmfmhckpfomeaaGreatDoor

/- Trees: the reference's functions compute the plain ones. The condition: the list has at most 2^20 numbers. -/
namespace Go.Proofs.YtkmfmhckpfomeaaGreatDoor
open Go.RowKit
open BigFrame

def conn (g : List Int) : Bool := graphIn g && conB g
def treeLeaves (g : List Int) : Int × Bool := if treeB g then (((leavesN g : Nat) : Int), true) else (0, false)
noncomputable def treeForks (g : List Int) : Int × Bool := if treeB g then (((forksN g : Nat) : Int), true) else (0, false)
noncomputable def treeRes (g : List Int) : Int × Bool := if treeB g then (((treeNum g : Nat) : Int), true) else (0, false)
theorem distOf_length {g : List Int} (hg : IsGraph g) {x : Nat} (hx : x < g.length) : (distOf g x).length = g.length := (bfs_lt hg hx _).2.2.2
theorem sumTo_small {g : List Int} {k : Nat} : sumTo (deg g) k ≤ 12 * k := by
  induction k with
  | zero => exact Nat.le_refl _
  | succ k ih =>
    have := cnt_le (gN g k)
    have e : sumTo (deg g) (k + 1) = sumTo (deg g) k + cnt (gN g k) := rfl
    omega
theorem conn_false {g : List Int} {k : Nat} (hk : k < g.length) (h : dd g 0 k = 12) : conB g = false := by
  unfold conB
  rw [List.all_eq_false]
  exact ⟨k, List.mem_range.2 hk, by simp [h]⟩
theorem conn_true {g : List Int} (h : ∀ k, k < g.length → dd g 0 k ≠ 12) : conB g = true := by
  unfold conB
  rw [List.all_eq_true]
  intro k hk
  rw [List.mem_range] at hk
  rw [decide_eq_true_iff]
  exact h k hk

set_option maxHeartbeats 1000000 in
theorem l1Connected_c (v : Value) (g : List Int) (w : World) (hv : Rd w v g) (hg : IsGraph g) :
    Calls Tryz.prog 207 #[v] w fun e w' => e = .returned (.bool (conB g)) ∧ Ext w w' := by
  have hpos := hg.pos
  have hl := hg.le
  have HC := Lib.hid (l1Distances_c v g 0 w hv hg hpos)
  have HG := Lib.hid hg
  obtain ⟨a, c, rfl⟩ := hv.form
  clear hv hg
  go_enter Tryz.func207, Tryz.ntmps207
  go_wp2_with fail
  refine HC.out.mono ?_
  rintro e w1 ⟨v1, rfl, o1, x1⟩
  have hlen : (distOf g 0).length = g.length := distOf_length HG.out hpos
  obtain ⟨gb, cb, rfl⟩ := o1.slice (by omega)
  rw [hlen] at o1 ⊢
  have HD : Hid (∀ i, i < g.length → ∀ u, Ext w1 u → u.cell? ⟨gb, i, none⟩ = some (.int .i64 (dd g 0 i : Nat))) := fun i hi u hu => by
    obtain ⟨-, -, -, h1, h2, -⟩ := o1.at
    rw [hu.cell h1, h2 i hi, dist_get HG.out hpos hi]
  have X1 := Lib.hid x1
  clear o1 x1 HC hlen
  obtain ⟨L, hL⟩ : ∃ L, L = g.length := ⟨_, rfl⟩
  have HL := Lib.hid hL
  rw [← hL] at hpos hl HD ⊢
  clear hL
  go_wp2
  go_loop [4] (fun i => ∃ k : Nat, k ≤ L ∧ i = .int .i64 k ∧ Hid (∀ j, j < k → dd g 0 j ≠ 12)) (fun i => L - (intOf i).toNat)
  case atStart => exact ⟨0, Nat.zero_le _, rfl, fun j hj => absurd hj (Nat.not_lt_zero j)⟩
  case round =>
    obtain ⟨k, hk, rfl, HJ⟩ := hrel
    by_cases hlt : k < L
    · have c1 := HD.out k hlt _ (Ext.refl _)
      by_cases hd : dd g 0 k = 12
      · have f1 : (((dd g 0 k : Nat) : Int) == 12) = true := by rw [hd]; rfl
        have HF := Lib.hid (conn_false (show k < g.length by rw [← HL.out]; exact hlt) hd)
        clear hd
        go_wp2
        go_ret
        exact ⟨ret_bool HF.out.symm, X1.out⟩
      · have f1 : (((dd g 0 k : Nat) : Int) == 12) = false := by simp; omega
        have HN : Hid (∀ j, j < k + 1 → dd g 0 j ≠ 12) := fun j hj => by
          by_cases e : j = k
          · subst e; exact hd
          · exact HJ.out j (by omega)
        clear hd
        go_wp2
        go_round
        case rel => exact ⟨k + 1, by omega, by go_num, HN⟩
        case measure => simp [intOf]; omega
    · obtain rfl : k = L := by omega
      go_wp2
      go_ret
      exact ⟨ret_bool (conn_true (by rw [← HL.out]; exact HJ.out)).symm, X1.out⟩

set_option maxHeartbeats 1000000 in
theorem graphConnectedS_c (v : Value) (g : List Int) (w : World) (hv : Rd w v g) (hm : g.length ≤ 1048576) :
    Calls Tryz.prog 205 #[v] w fun e w' => e = .returned (.bool (conn g)) ∧ Ext w w' := by
  have HV := Lib.hid hv
  have HC := Lib.hid (graphInS_c v g w hv hm)
  obtain ⟨a, c, rfl⟩ := hv.form
  clear hv
  unfold conn
  cases h0 : graphIn g
  · rw [h0] at HC
    go_enter Tryz.func205, Tryz.ntmps205
    go_wp2_with fail
    refine HC.out.mono ?_
    rintro e w1 ⟨rfl, x1⟩
    have X1 := Lib.hid x1; clear x1
    go_wp2
    go_ret
    exact ⟨rfl, X1.out⟩
  · rw [h0] at HC
    have HG := Lib.hid (graphIn_iff.1 h0)
    clear h0
    go_enter Tryz.func205, Tryz.ntmps205
    go_wp2_with fail
    refine HC.out.mono ?_
    rintro e w1 ⟨rfl, x1⟩
    have X1 := Lib.hid x1; clear x1
    go_wp2_with fail
    refine (l1Connected_c _ g w1 (HV.out.ext X1.out) HG.out).mono ?_
    rintro e w2 ⟨rfl, x2⟩
    have X2 := Lib.hid (X1.out.trans x2); clear x2
    obtain ⟨T, hT⟩ : ∃ T, T = conB g := ⟨_, rfl⟩
    rw [← hT]
    have HT := Lib.hid hT
    clear hT
    go_wp2
    go_ret
    exact ⟨ret_bool HT.out, X2.out⟩

set_option maxHeartbeats 400000 in
theorem l3Degree_c (v : Value) (g : List Int) (x : Nat) (w : World) (hv : Rd w v g) (hg : IsGraph g) (hx : x < g.length) :
    Calls Tryz.prog 189 #[v, .int .i64 x] w fun e w' => e = .returned (.int .i64 (deg g x : Nat)) ∧ w = w' := by
  obtain ⟨a, c, rfl⟩ := hv.form
  obtain ⟨b, o, rfl, -, -, hc⟩ := hv.atI hx
  have c1 := hc w (Ext.refl w)
  rw [hg.row x hx] at c1
  have h4 := hg.small x
  have HL := Lib.hid (l1Count_c (gN g x) (by omega) w)
  clear hc hv hg
  go_enter Tryz.func189, Tryz.ntmps189
  go_wp2_with (go_at_call 156; refine HL.out.mono ?_; rintro e w' ⟨rfl, rfl⟩)
  go_ret
  exact ⟨rfl, rfl⟩

set_option maxHeartbeats 1000000 in
theorem treeInS_c (v : Value) (g : List Int) (w : World) (hv : Rd w v g) (hm : g.length ≤ 1048576) :
    Calls Tryz.prog 188 #[v] w fun e w' => e = .returned (.bool (treeB g)) ∧ Ext w w' := by
  have HV := Lib.hid hv
  have HC := Lib.hid (graphConnectedS_c v g w hv hm)
  obtain ⟨a, c, rfl⟩ := hv.form
  clear hv
  cases h0 : conn g
  · rw [h0] at HC
    rw [show treeB g = false from by unfold treeB; unfold conn at h0; rw [h0]; rfl]
    go_enter Tryz.func188, Tryz.ntmps188
    go_wp2_with fail
    refine HC.out.mono ?_
    rintro e w1 ⟨rfl, x1⟩
    have X1 := Lib.hid x1; clear x1
    go_wp2
    go_ret
    exact ⟨rfl, X1.out⟩
  · rw [h0] at HC
    have h0' := h0
    unfold conn at h0'
    rw [Bool.and_eq_true] at h0'
    have hG := graphIn_iff.1 h0'.1
    have HG := Lib.hid hG
    have hl := hG.le
    have hpos := hG.pos
    have HT : Hid (treeB g = decide (sumTo (deg g) g.length + 2 = 2 * g.length)) := by unfold treeB Hid; unfold conn at h0; rw [h0]; rfl
    rw [HT.out]
    clear hG h0 h0' HT
    obtain ⟨L, hL⟩ : ∃ L, L = g.length := ⟨_, rfl⟩
    have HL := Lib.hid hL
    rw [← hL] at hl hpos HC ⊢
    have HV' : Hid (Rd w (.slice a L c) g) := by rw [hL]; exact HV.out
    clear hL HV hm
    go_enter Tryz.func188, Tryz.ntmps188
    go_wp2_with fail
    refine HC.out.mono ?_
    rintro e w1 ⟨rfl, x1⟩
    have X1 := Lib.hid x1; clear x1
    have R1 := Lib.hid (HV'.out.ext X1.out)
    go_wp2
    go_loop [3, 4] (fun n i => ∃ k D : Nat, k ≤ L ∧ i = .int .i64 k ∧ n = .int .i64 D ∧ D ≤ 12 * k ∧ Hid (D = sumTo (deg g) k)) (fun _ i => L - (intOf i).toNat)
    case atStart => exact ⟨0, 0, Nat.zero_le _, rfl, rfl, Nat.le_refl _, rfl⟩
    case round =>
      obtain ⟨k, D, hk, rfl, rfl, hD, HD⟩ := hrel
      by_cases hlt : k < L
      · have hc12 : deg g k ≤ 12 := cnt_le _
        have HE : Hid (D + deg g k = sumTo (deg g) (k + 1)) := by unfold Hid; rw [HD.out]; rfl
        have HDg := Lib.hid (l3Degree_c (.slice a L c) g k w1 R1.out HG.out (by rw [← HL.out]; exact hlt))
        generalize deg g k = dk at hc12 HE HDg
        go_wp2_with (go_at_call 189; refine HDg.out.mono ?_; rintro e w' ⟨rfl, rfl⟩)
        go_round
        case rel => exact ⟨k + 1, D + dk, by omega, by go_num, by go_num, by omega, HE⟩
        case measure => simp [intOf]; omega
      · obtain rfl : k = L := by omega
        obtain ⟨L2, hL2⟩ : ∃ L2 : Nat, (k : Int) - 1 = (L2 : Int) := ⟨k - 1, by omega⟩
        have HR : Hid (decide (sumTo (deg g) k + 2 = 2 * k) = ((D : Int) == 2 * (L2 : Int))) := by
          unfold Hid
          rw [← HD.out, Bool.eq_iff_iff, decide_eq_true_iff, beq_iff_eq]
          omega
        obtain ⟨T, hT⟩ : ∃ T, ((D : Int) == 2 * (L2 : Int)) = T := ⟨_, rfl⟩
        rw [hT] at HR
        go_wp2
        go_ret
        exact ⟨ret_bool HR.out.symm, X1.out⟩

set_option maxHeartbeats 1000000 in
theorem treeLeavesS_c (v : Value) (g : List Int) (w : World) (hv : Rd w v g) (hm : g.length ≤ 1048576) :
    Calls Tryz.prog 154 #[v] w fun e w' => e = .returned (pairV (treeLeaves g)) ∧ Ext w w' := by
  have HV := Lib.hid hv
  have HC := Lib.hid (treeInS_c v g w hv hm)
  obtain ⟨a, c, rfl⟩ := hv.form
  clear hv
  cases h0 : treeB g
  · rw [h0] at HC
    rw [show treeLeaves g = (0, false) from by unfold treeLeaves; rw [h0]; rfl]
    go_enter Tryz.func154, Tryz.ntmps154
    go_wp2_with fail
    refine HC.out.mono ?_
    rintro e w1 ⟨rfl, x1⟩
    have X1 := Lib.hid x1; clear x1
    go_wp2
    go_ret2
    exact ⟨rfl, X1.out⟩
  · rw [h0] at HC
    have hG := (tree_of h0).graph
    have HG := Lib.hid hG
    have hl := hG.le
    have HT : Hid (treeLeaves g = (((mask (leafB g) g.length : Nat) : Int), true)) := by unfold treeLeaves Hid; rw [h0]; rfl
    rw [HT.out]
    clear hG h0 HT
    obtain ⟨L, hL⟩ : ∃ L, L = g.length := ⟨_, rfl⟩
    have HL := Lib.hid hL
    rw [← hL] at hl HC ⊢
    have HV' : Hid (Rd w (.slice a L c) g) := by rw [hL]; exact HV.out
    clear hL HV hm
    go_enter Tryz.func154, Tryz.ntmps154
    go_wp2_with fail
    refine HC.out.mono ?_
    rintro e w1 ⟨rfl, x1⟩
    have X1 := Lib.hid x1; clear x1
    have R1 := Lib.hid (HV'.out.ext X1.out)
    go_wp2
    go_loop [4, 5] (fun s i => ∃ k X : Nat, k ≤ L ∧ i = .int .i64 k ∧ s = .int .i64 X ∧ X ≤ 4095 ∧ Hid (X = mask (leafB g) k)) (fun _ i => L - (intOf i).toNat)
    case atStart => exact ⟨0, 0, Nat.zero_le _, rfl, rfl, by omega, rfl⟩
    case round =>
      obtain ⟨k, X, hk, rfl, rfl, hX, HX⟩ := hrel
      by_cases hlt : k < L
      · have HDg := Lib.hid (l3Degree_c (.slice a L c) g k w1 R1.out HG.out (by rw [← HL.out]; exact hlt))
        by_cases hd : deg g k = 1
        · have f1 : (((deg g k : Nat) : Int) == 1) = true := by rw [hd]; rfl
          obtain ⟨p, hp, hp1, hp2, hp3⟩ := pow_var k (by omega)
          have hp4 : p ≤ 2048 := by rw [← hp]; exact (Nat.pow_le_pow_right (by omega) (by omega) : 2 ^ k ≤ 2 ^ 11)
          have e0 : min k 64 = k := by omega
          have e1 := bits_or X p (by omega) (by omega)
          have hb4 : bor X p ≤ 4095 := by have := bor_lt (x := X) (y := p) (n := 12) (by omega) (by omega); omega
          have HE : Hid (bor X p = mask (leafB g) (k + 1)) := by unfold Hid; rw [HX.out, ← hp]; show _ = (if leafB g k then _ else _); rw [show leafB g k = true from by unfold leafB; rw [hd]; rfl]; rfl
          generalize bor X p = Y at e1 hb4 HE
          clear hd hp
          go_wp2_with (go_at_call 189; refine HDg.out.mono ?_; rintro e w' ⟨rfl, rfl⟩)
          go_round
          case rel => exact ⟨k + 1, Y, by omega, by go_num, rfl, hb4, HE⟩
          case measure => simp [intOf]; omega
        · have f1 : (((deg g k : Nat) : Int) == 1) = false := by simp; omega
          have HE : Hid (X = mask (leafB g) (k + 1)) := by unfold Hid; rw [HX.out]; show _ = (if leafB g k then _ else _); rw [show leafB g k = false from by unfold leafB; rw [decide_eq_false hd]]; rfl
          clear hd
          go_wp2_with (go_at_call 189; refine HDg.out.mono ?_; rintro e w' ⟨rfl, rfl⟩)
          go_round
          case rel => exact ⟨k + 1, X, by omega, by go_num, rfl, hX, HE⟩
          case measure => simp [intOf]; omega
      · obtain rfl : k = L := by omega
        go_wp2
        go_ret2
        exact ⟨ret_pair' (by rw [HX.out]), X1.out⟩
end Go.Proofs.YtkmfmhckpfomeaaGreatDoor
