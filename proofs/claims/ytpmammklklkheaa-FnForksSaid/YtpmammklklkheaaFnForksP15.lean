/- What the walk of FnForks rests on, part 15: plain facts, and contracts of the functions that it reaches. Each states its own condition. -/
import Derived.Test.YtpmammklklkheaaFnForksP14
/- Trees, their leaves and forks, and that leaves and forks tell the least resolving code: plain. No condition. -/
namespace Go.Proofs.Ytpmammklklkheaa

def adj (g : List Int) (x y : Nat) : Prop := (gN g x).testBit y = true
def deg (g : List Int) (x : Nat) : Nat := cnt (gN g x)
theorem adj_symm {g : List Int} (hg : IsGraph g) {x y : Nat} (h : adj g x y) : adj g y x := by unfold adj at *; rw [hg.sym]; exact h
theorem adj_lt {g : List Int} (hg : IsGraph g) {x y : Nat} (h : adj g x y) : x < g.length ∧ y < g.length := ⟨bit_lt (hg.lt y) (adj_symm hg h), bit_lt (hg.lt x) h⟩
theorem adj_ne {g : List Int} (hg : IsGraph g) {x y : Nat} (h : adj g x y) : x ≠ y := fun e => by
  subst e
  unfold adj at h
  rw [hg.self] at h
  cases h
theorem dd_self {g : List Int} (hg : IsGraph g) (x : Nat) : dd g x x = 0 := (dd_zero hg).2 rfl
theorem dd_adj {g : List Int} (hg : IsGraph g) {x y : Nat} (h : adj g x y) : dd g x y = 1 := (dd_one hg (adj_ne hg h)).2 h
/-- Neighbours are nearly as far. -/
theorem near {g : List Int} (hg : IsGraph g) {x y : Nat} (h : adj g x y) (v : Nat) : dd g x v ≤ dd g y v + 1 := by
  have h12 := dd_le g x v
  by_cases hd : dd g y v ≤ 10
  · rw [dd_symm hg x v, dd_symm hg y v] at *
    have h1 := (dd_iff hg (show dd g v y ≤ 11 by omega)).1 (Nat.le_refl _)
    exact (dd_iff hg (show dd g v y + 1 ≤ 11 by omega)).2 ((reach_succ hg).2 (.inr ⟨y, h1, adj_symm hg h⟩))
  · omega

/-! ### Few neighbours -/
theorem bits_none {s a : Nat} (hs : s ≤ 4095) (h : cnt s = 0) (ha : s.testBit a = true) : False := by
  rw [(cnt_zero hs).1 h, Nat.zero_testBit] at ha
  cases ha
theorem bits_drop {s a : Nat} (hs : s ≤ 4095) (ha : s.testBit a = true) : cnt (without s (2 ^ a)) + 1 = cnt s ∧ without s (2 ^ a) ≤ 4095 ∧ ∀ b, (without s (2 ^ a)).testBit b = true ↔ s.testBit b = true ∧ b ≠ a := by
  have ha12 := bit_lt (show s < 2 ^ 12 by omega) ha
  refine ⟨cnt_drop ha12 ha, without_le s _ hs, fun b => ?_⟩
  rw [testBit_without, Nat.testBit_two_pow, Bool.and_eq_true, Bool.not_eq_true', decide_eq_false_iff_not]
  exact and_congr_right fun _ => ⟨fun h e => h e.symm, fun h e => h e.symm⟩
theorem bits_one {s a b : Nat} (hs : s ≤ 4095) (h : cnt s = 1) (ha : s.testBit a = true) (hb : s.testBit b = true) : a = b := by
  obtain ⟨h1, h2, h3⟩ := bits_drop hs ha
  by_cases e : b = a
  · exact e.symm
  · exact (bits_none h2 (by omega) ((h3 b).2 ⟨hb, e⟩)).elim
theorem bits_two {s a b c : Nat} (hs : s ≤ 4095) (h : cnt s = 2) (ha : s.testBit a = true) (hb : s.testBit b = true) (hc : s.testBit c = true) (hba : b ≠ a) (hca : c ≠ a) : b = c := by
  obtain ⟨h1, h2, h3⟩ := bits_drop hs ha
  exact bits_one h2 (by omega) ((h3 b).2 ⟨hb, hba⟩) ((h3 c).2 ⟨hc, hca⟩)
theorem bits_some {s : Nat} (hs : s ≤ 4095) (h : cnt s ≠ 0) : ∃ a, s.testBit a = true := by
  obtain ⟨a, ha⟩ := ne_bit (x := s) (y := 0) (fun e => h ((cnt_zero hs).2 e))
  rw [Nat.zero_testBit, ne_eq, Bool.not_eq_false] at ha
  exact ⟨a, ha⟩
theorem bits_other {s a : Nat} (hs : s ≤ 4095) (h : 2 ≤ cnt s) (ha : s.testBit a = true) : ∃ b, s.testBit b = true ∧ b ≠ a := by
  obtain ⟨h1, h2, h3⟩ := bits_drop hs ha
  obtain ⟨b, hb⟩ := bits_some h2 (by omega)
  exact ⟨b, (h3 b).1 hb⟩
theorem bits_others {s a : Nat} (hs : s ≤ 4095) (h : 3 ≤ cnt s) (ha : s.testBit a = true) : ∃ b c, s.testBit b = true ∧ s.testBit c = true ∧ b ≠ a ∧ c ≠ a ∧ b ≠ c := by
  obtain ⟨h1, h2, h3⟩ := bits_drop hs ha
  obtain ⟨b, hb⟩ := bits_some h2 (by omega)
  obtain ⟨c, hc, hcb⟩ := bits_other h2 (by omega) hb
  exact ⟨b, c, ((h3 b).1 hb).1, ((h3 c).1 hc).1, ((h3 b).1 hb).2, ((h3 c).1 hc).2, fun e => hcb e.symm⟩
theorem bits_pos {s a : Nat} (hs : s ≤ 4095) (ha : s.testBit a = true) : 1 ≤ cnt s := by
  have := (bits_drop hs ha).1
  omega

/-! ### Trees -/
structure IsTree (g : List Int) : Prop where
  graph : IsGraph g
  fin : ∀ x y, x < g.length → y < g.length → dd g x y ≤ 11
  next : ∀ v x, v < g.length → x < g.length → x ≠ v → ∃ z, adj g x z ∧ dd g z v + 1 = dd g x v ∧ ∀ z', adj g x z' → z' ≠ z → dd g z' v = dd g x v + 1
theorem IsTree.small {g : List Int} (ht : IsTree g) (x : Nat) : gN g x ≤ 4095 := ht.graph.small x
theorem IsTree.closer {g : List Int} (ht : IsTree g) {v x z z' : Nat} (hv : v < g.length) (hx : x ≠ v) (h1 : adj g x z) (h2 : dd g z v < dd g x v) (h3 : adj g x z') (h4 : z' ≠ z) : dd g z' v = dd g x v + 1 := by
  obtain ⟨y, y1, y2, y3⟩ := ht.next v x hv (adj_lt ht.graph h1).1 hx
  by_cases e : z = y
  · subst e; exact y3 z' h3 h4
  · have := y3 z h1 e; omega
/-- Over an edge the distance to a node changes by 1. -/
theorem IsTree.step {g : List Int} (ht : IsTree g) {v x a : Nat} (hv : v < g.length) (h : adj g x a) : dd g a v + 1 = dd g x v ∨ dd g a v = dd g x v + 1 := by
  by_cases e : x = v
  · subst e
    right
    rw [dd_self ht.graph, dd_adj ht.graph (adj_symm ht.graph h)]
  · obtain ⟨y, y1, y2, y3⟩ := ht.next v x hv (adj_lt ht.graph h).1 e
    by_cases e' : a = y
    · subst e'; exact .inl y2
    · exact .inr (y3 a h e')
/-- An edge is the only way between its sides. -/
theorem IsTree.bridge {g : List Int} (ht : IsTree g) {x a v w : Nat} (h : adj g x a) (hv : dd g a v < dd g x v) (hw : ¬ dd g a w < dd g x w) (hvw : adj g v w) : v = a ∧ w = x := by
  have hG := ht.graph
  obtain ⟨lv, lw⟩ := adj_lt hG hvw
  obtain ⟨lx, la⟩ := adj_lt hG h
  have s1 := ht.step lv h
  have s2 := ht.step lw h
  have n1 := near hG hvw a
  have n2 := near hG (adj_symm hG hvw) a
  have n3 := near hG hvw x
  have n4 := near hG (adj_symm hG hvw) x
  rw [dd_symm hG a v, dd_symm hG x v] at s1 hv
  rw [dd_symm hG a w, dd_symm hG x w] at s2 hw
  have e1 : dd g w x = dd g v a := by omega
  by_cases hva : v = a
  · subst hva
    rw [dd_self hG] at e1
    exact ⟨rfl, ((dd_zero hG).1 e1).symm⟩
  · exfalso
    obtain ⟨z, z1, z2, z3⟩ := ht.next a v la lv hva
    have n5 := near hG (adj_symm hG h) z
    have n6 := near hG z1 x
    have hvx : v ≠ x := fun e => by
      subst e
      rw [dd_self hG] at s1 hv
      omega
    have hzx : dd g z x < dd g v x := by
      have := near hG h z
      rw [dd_symm hG x z, dd_symm hG a z] at this
      omega
    by_cases e : w = z
    · subst e; omega
    · have := ht.closer lx hvx z1 hzx hvw e
      omega
/-- Beyond an edge everything is as far as the edge and more. -/
theorem IsTree.through {g : List Int} (ht : IsTree g) {x a s : Nat} (h : adj g x a) (hs : s < g.length) (hn : ¬ dd g a s < dd g x s) : ∀ d y, y < g.length → dd g y s ≤ d → dd g a y < dd g x y → dd g x y + dd g x s ≤ dd g y s
  | d, y, hy, hd, hlt => by
    have hG := ht.graph
    have hys : y ≠ s := fun e => by subst e; exact hn hlt
    obtain ⟨z, z1, z2, z3⟩ := ht.next s y hs hy hys
    have hz := (adj_lt hG z1).2
    by_cases hz' : dd g a z < dd g x z
    · cases d with
      | zero => omega
      | succ d =>
        have ih := ht.through h hs hn d z hz (by omega) hz'
        have := near hG z1 x
        rw [dd_symm hG y x, dd_symm hG z x] at this
        omega
    · obtain ⟨rfl, rfl⟩ := ht.bridge h hlt hz' z1
      rw [dd_adj hG h]
      omega
/-- What is nearer to y on the way from x: the last step is the same. -/
theorem IsTree.last {g : List Int} (ht : IsTree g) {x y a w : Nat} (hx : x < g.length) (hy : y < g.length) (hxa : adj g x a) (ha : dd g a y + 1 = dd g x y) (hya : y ≠ a) (hw : adj g y w) (hwx : dd g w x + 1 = dd g y x) : dd g w a + 1 = dd g y a := by
  have hG := ht.graph
  have la := (adj_lt hG hxa).2
  have hyx : y ≠ x := fun e => by subst e; rw [dd_self hG] at hwx; omega
  obtain ⟨z, z1, z2, z3⟩ := ht.next a y la hy hya
  have n1 := near hG hxa z
  rw [dd_symm hG x z, dd_symm hG a z] at n1
  rw [dd_symm hG a y, dd_symm hG x y] at ha
  have hz : dd g z x < dd g y x := by omega
  by_cases e : w = z
  · subst e; exact z2
  · have := ht.closer hx hyx z1 hz hw e
    omega

/-! ### The way from a leaf -/
/-- The k-th step of the way from a leaf l leads from u to m. -/
def Leg (g : List Int) (l : Nat) : Nat → Nat → Nat → Prop
  | 0, u, m => u = l ∧ deg g l = 1 ∧ adj g l m
  | k + 1, m, m' => (∃ u, Leg g l k u m ∧ m' ≠ u) ∧ deg g m = 2 ∧ adj g m m'
theorem leg_adj {g : List Int} {l k u m : Nat} (h : Leg g l k u m) : adj g u m := by
  cases k with
  | zero => obtain ⟨rfl, -, h⟩ := h; exact h
  | succ k => exact h.2.2
theorem leg_leaf {g : List Int} {l : Nat} : ∀ {k u m : Nat}, Leg g l k u m → deg g l = 1
  | 0, _, _, h => h.2.1
  | _ + 1, _, _, ⟨⟨_, h, _⟩, _⟩ => leg_leaf h
theorem leg_det {g : List Int} (hg : IsGraph g) {l : Nat} : ∀ {k u m u' m' : Nat}, Leg g l k u m → Leg g l k u' m' → u = u' ∧ m = m'
  | 0, u, m, u', m', ⟨h1, h2, h3⟩, ⟨k1, k2, k3⟩ => ⟨h1.trans k1.symm, bits_one (hg.small l) h2 h3 k3⟩
  | k + 1, u, m, u', m', ⟨⟨a, h1, h2⟩, h3, h4⟩, ⟨⟨b, k1, k2⟩, k3, k4⟩ => by
    obtain ⟨rfl, rfl⟩ := leg_det hg h1 k1
    exact ⟨rfl, bits_two (hg.small u) h3 (adj_symm hg (leg_adj h1)) h4 k4 h2 k2⟩
theorem leg_inj {g : List Int} (hg : IsGraph g) {l l' : Nat} : ∀ {k k' u m : Nat}, Leg g l k u m → Leg g l' k' u m → l = l' ∧ k = k'
  | 0, 0, u, m, h, h' => ⟨h.1.symm.trans h'.1, rfl⟩
  | 0, k' + 1, u, m, h, h' => by
    have h1 := h.2.1
    have h2 := h'.2.1
    rw [h.1] at h2
    omega
  | k + 1, 0, u, m, h, h' => by
    have h1 := h'.2.1
    have h2 := h.2.1
    rw [h'.1] at h2
    omega
  | k + 1, k' + 1, u, m, ⟨⟨a, h1, h2⟩, h3, h4⟩, ⟨⟨b, k1, k2⟩, k3, k4⟩ => by
    obtain rfl := bits_two (hg.small u) h3 h4 (adj_symm hg (leg_adj h1)) (adj_symm hg (leg_adj k1)) (fun e => h2 e.symm) (fun e => k2 e.symm)
    obtain ⟨r1, r2⟩ := leg_inj hg h1 k1
    exact ⟨r1, by rw [r2]⟩
theorem leg_less {g : List Int} {l : Nat} : ∀ {k u m j : Nat}, Leg g l k u m → j < k → ∃ u' m', Leg g l j u' m' ∧ deg g m' = 2
  | k + 1, u, m, j, ⟨⟨a, h1, h2⟩, h3, h4⟩, hj => by
    by_cases e : j = k
    · subst e; exact ⟨a, u, h1, h3⟩
    · exact leg_less h1 (by omega)
/-- The node f is the fork on the way from l. -/
def Fork (g : List Int) (l f : Nat) : Prop := ∃ k u, Leg g l k u f ∧ 3 ≤ deg g f
theorem fork_stop {g : List Int} (hg : IsGraph g) {l k u f k' u' m' : Nat} (h : Leg g l k u f) (hf : 3 ≤ deg g f) (h' : Leg g l k' u' m') : k' ≤ k := by
  rcases Nat.lt_or_ge k k' with hk | hk
  · obtain ⟨a, b, h1, h2⟩ := leg_less h' hk
    obtain ⟨-, rfl⟩ := leg_det hg h h1
    omega
  · exact hk
theorem fork_one {g : List Int} (hg : IsGraph g) {l k u f k' u' f' : Nat} (h : Leg g l k u f) (hf : 3 ≤ deg g f) (h' : Leg g l k' u' f') (hf' : 3 ≤ deg g f') : u = u' ∧ f = f' := by
  have h1 := fork_stop hg h hf h'
  have h2 := fork_stop hg h' hf' h
  obtain rfl : k = k' := by omega
  exact leg_det hg h h'
theorem fork_uniq {g : List Int} (hg : IsGraph g) {l f f' : Nat} (h : Fork g l f) (h' : Fork g l f') : f = f' := by
  obtain ⟨k, u, h1, h2⟩ := h
  obtain ⟨k', u', h3, h4⟩ := h'
  exact (fork_one hg h1 h2 h3 h4).2
theorem leg_dist {g : List Int} (ht : IsTree g) {l : Nat} : ∀ {k u m : Nat}, Leg g l k u m → dd g u l = k ∧ dd g m l = k + 1
  | 0, u, m, ⟨h1, h2, h3⟩ => by
    subst h1
    exact ⟨dd_self ht.graph u, dd_adj ht.graph (adj_symm ht.graph h3)⟩
  | k + 1, m, m', ⟨⟨u, h1, h2⟩, h3, h4⟩ => by
    have hG := ht.graph
    obtain ⟨d1, d2⟩ := leg_dist ht h1
    have hl : l < g.length := by
      by_cases e : l < g.length
      · exact e
      · have := leg_leaf h1
        unfold deg at this
        rw [gN_out (by omega)] at this
        exact absurd this (by decide)
    refine ⟨d2, ?_⟩
    have hml : m ≠ l := fun e => by rw [e, dd_self hG] at d2; omega
    have := ht.closer hl hml (adj_symm hG (leg_adj h1)) (by omega) h4 h2
    omega
theorem leg_lt {g : List Int} (_ : IsGraph g) {l k u m : Nat} (h : Leg g l k u m) : l < g.length := by
  by_cases e : l < g.length
  · exact e
  · have := leg_leaf h
    unfold deg at this
    rw [gN_out (by omega)] at this
    exact absurd this (by decide)
/-- Every set that holds all leaves of each fork but one. -/
def Full (g : List Int) (S : Nat) : Prop := ∀ l l' f, Fork g l f → Fork g l' f → l ≠ l' → S.testBit l = true ∨ S.testBit l' = true
/-- A side without a node of such a set is one leg. -/
theorem side_leg {g : List Int} (ht : IsTree g) {S : Nat} (hS : Full g S) : ∀ N m x, adj g m x → (∀ v, v < g.length → dd g x v < dd g m v → dd g m v ≤ N) → (∀ v, v < g.length → dd g x v < dd g m v → S.testBit v = false) → ∃ l k, Leg g l k x m
  | N, m, x, ha, hN, hF => by
    have hG := ht.graph
    obtain ⟨lm, lx⟩ := adj_lt hG ha
    have h0 := hN x lx (by rw [dd_self hG, dd_adj hG ha]; omega)
    rw [dd_adj hG ha] at h0
    have hxm := adj_symm hG ha
    cases N with
    | zero => omega
    | succ N =>
      have hsub : ∀ c, adj g x c → c ≠ m → ∀ v, v < g.length → dd g c v < dd g x v → dd g x v < dd g m v ∧ dd g x v ≤ N := fun c hc hcm v hv hlt => by
        have hxv : x ≠ v := fun e => by rw [← e, dd_self hG] at hlt; omega
        have h1 := ht.closer hv hxv hc hlt hxm (fun e => hcm e.symm)
        have h2 := hN v hv (by omega)
        omega
      have ih : ∀ c, adj g x c → c ≠ m → ∃ l k, Leg g l k c x := fun c hc hcm =>
        side_leg ht hS N x c hc (fun v hv hlt => (hsub c hc hcm v hv hlt).2) (fun v hv hlt => hF v hv (hsub c hc hcm v hv hlt).1)
      have hp := bits_pos (hG.small x) hxm
      rcases Nat.lt_or_ge (deg g x) 3 with h3 | h3
      · by_cases h1 : deg g x = 1
        · exact ⟨x, 0, rfl, h1, hxm⟩
        · have h2 : deg g x = 2 := by unfold deg at *; omega
          obtain ⟨c, hc, hcm⟩ := bits_other (hG.small x) (Nat.le_of_eq h2.symm) hxm
          obtain ⟨l, k, hL⟩ := ih c hc hcm
          exact ⟨l, k + 1, ⟨c, hL, fun e => hcm e.symm⟩, h2, hxm⟩
      · exfalso
        obtain ⟨c1, c2, hc1, hc2, n1, n2, n3⟩ := bits_others (hG.small x) h3 hxm
        obtain ⟨l1, k1, L1⟩ := ih c1 hc1 n1
        obtain ⟨l2, k2, L2⟩ := ih c2 hc2 n2
        have hne : l1 ≠ l2 := fun e => by
          subst e
          exact n3 (fork_one hG L1 h3 L2 h3).1
        have f1 := leg_dist ht L1
        have f2 := leg_dist ht L2
        have g1 := hF l1 (leg_lt hG L1) (hsub c1 hc1 n1 l1 (leg_lt hG L1) (by omega)).1
        have g2 := hF l2 (leg_lt hG L2) (hsub c2 hc2 n2 l2 (leg_lt hG L2) (by omega)).1
        rcases hS l1 l2 x ⟨k1, c1, L1, h3⟩ ⟨k2, c2, L2, h3⟩ hne with h | h
        · rw [g1] at h; cases h
        · rw [g2] at h; cases h
theorem full_some {g : List Int} (ht : IsTree g) {S f : Nat} (hS : Full g S) (hf : 3 ≤ deg g f) : ∃ s, s < g.length ∧ S.testBit s = true := by
  have hG := ht.graph
  by_cases h : ∃ s, s < g.length ∧ S.testBit s = true
  · exact h
  · exfalso
    have hF : ∀ v, v < g.length → S.testBit v = false := fun v hv => by
      cases e : S.testBit v
      · rfl
      · exact absurd ⟨v, hv, e⟩ h
    obtain ⟨a, ha⟩ := bits_some (hG.small f) (show cnt (gN g f) ≠ 0 by unfold deg at hf; omega)
    obtain ⟨b, hb, hba⟩ := bits_other (hG.small f) (by unfold deg at hf; omega) ha
    obtain ⟨l1, k1, L1⟩ := side_leg ht hS 12 f a ha (fun v _ _ => dd_le g f v) (fun v hv _ => hF v hv)
    obtain ⟨l2, k2, L2⟩ := side_leg ht hS 12 f b hb (fun v _ _ => dd_le g f v) (fun v hv _ => hF v hv)
    have hne : l1 ≠ l2 := fun e => by
      subst e
      exact hba (fork_one hG L2 hf L1 hf).1
    rcases hS l1 l2 f ⟨k1, a, L1, hf⟩ ⟨k2, b, L2, hf⟩ hne with h1 | h1
    · rw [hF l1 (leg_lt hG L1)] at h1; cases h1
    · rw [hF l2 (leg_lt hG L2)] at h1; cases h1
/-- Such a set of leaves tells all nodes from one another. -/
theorem full_tells {g : List Int} (ht : IsTree g) {S f : Nat} (hS : Full g S) (hf : 3 ≤ deg g f) (hl : ∀ s, S.testBit s = true → deg g s = 1) (hSn : S < 2 ^ g.length) : ∀ D x y, x < g.length → y < g.length → x ≠ y → dd g x y ≤ D → (∀ s, S.testBit s = true → dd g x s = dd g y s) → False
  | D, x, y, lx, ly, hxy, hD, he => by
    have hG := ht.graph
    obtain ⟨s0, ls0, hs0⟩ := full_some ht hS hf
    obtain ⟨a, xa, da, -⟩ := ht.next y x ly lx hxy
    obtain ⟨b, yb, db, -⟩ := ht.next x y lx ly (fun e => hxy e.symm)
    obtain ⟨-, la⟩ := adj_lt hG xa
    obtain ⟨-, lb⟩ := adj_lt hG yb
    have toward : ∀ x y a, x < g.length → y < g.length → x ≠ y → adj g x a → dd g a y + 1 = dd g x y → (∀ s, S.testBit s = true → dd g x s = dd g y s) → ∀ s, S.testBit s = true → dd g a s + 1 = dd g x s := by
      intro x y a lx ly hxy xa da he s hs
      have ls := bit_lt hSn hs
      rcases ht.step ls xa with h | h
      · exact h
      · exfalso
        have h1 := ht.through xa ls (by omega) 12 y ly (dd_le g y s) (by omega)
        have h2 := he s hs
        have h3 : dd g x y = 0 := by omega
        exact hxy ((dd_zero hG).1 h3).symm
    have ta := toward x y a lx ly hxy xa da he
    have tb := toward y x b ly lx (fun e => hxy e.symm) yb db (fun s hs => (he s hs).symm)
    by_cases hya : y = a
    · subst hya
      have h1 := ta s0 hs0
      have h2 := he s0 hs0
      omega
    · have hba := ht.last lx ly xa da hya yb db
      by_cases hab : a = b
      · subst hab
        obtain ⟨l1, k1, L1⟩ := side_leg ht hS 12 a x (adj_symm hG xa) (fun v _ _ => dd_le g a v) (fun v _ hlt => by
          cases e : S.testBit v
          · rfl
          · have := ta v e; omega)
        obtain ⟨l2, k2, L2⟩ := side_leg ht hS 12 a y (adj_symm hG yb) (fun v _ _ => dd_le g a v) (fun v _ hlt => by
          cases e : S.testBit v
          · rfl
          · have := tb v e; omega)
        have d1 := leg_dist ht L1
        have d2 := leg_dist ht L2
        rcases Nat.lt_or_ge (deg g a) 3 with h3 | h3
        · have hsa : a ≠ s0 := fun e => by
            have h1 := hl s0 hs0
            rw [← e] at h1
            exact hxy (bits_one (hG.small a) h1 (adj_symm hG xa) (adj_symm hG yb))
          obtain ⟨z, z1, z2, -⟩ := ht.next s0 a ls0 la hsa
          have h1 := ta s0 hs0
          have h2 := tb s0 hs0
          have hzx : z ≠ x := fun e => by subst e; omega
          have hzy : z ≠ y := fun e => by subst e; omega
          have hd2 : deg g a = 2 := by
            have hp : 2 ≤ deg g a := by
              have q1 := bits_drop (hG.small a) z1
              have q2 := bits_pos q1.2.1 ((q1.2.2 x).2 ⟨adj_symm hG xa, fun e => hzx e.symm⟩)
              unfold deg
              omega
            omega
          exact hxy (bits_two (hG.small a) hd2 z1 (adj_symm hG xa) (adj_symm hG yb) (fun e => hzx e.symm) (fun e => hzy e.symm))
        · have hne : l1 ≠ l2 := fun e => by
            subst e
            exact hxy (fork_one hG L1 h3 L2 h3).1
          rcases hS l1 l2 a ⟨k1, x, L1, h3⟩ ⟨k2, y, L2, h3⟩ hne with h | h
          · have := ta l1 h; omega
          · have := tb l2 h; omega
      · have hlt : dd g a b + 2 ≤ dd g x y := by
          rw [dd_symm hG a b, dd_symm hG x y]
          rw [dd_symm hG a y, dd_symm hG x y] at da
          omega
        cases D with
        | zero => omega
        | succ D =>
          exact full_tells ht hS hf hl hSn D a b la lb hab (by omega) fun s hs => by
            have h1 := ta s hs
            have h2 := tb s hs
            have h3 := he s hs
            omega
theorem full_res {g : List Int} (ht : IsTree g) {S f : Nat} (hS : Full g S) (hf : 3 ≤ deg g f) (hl : ∀ s, S.testBit s = true → deg g s = 1) (hSn : S < 2 ^ g.length) : resN g S = true := by
  rw [resN_iff]
  intro i hi k hk
  by_cases h : ∃ c, c < g.length ∧ S.testBit c = true ∧ dd g i c ≠ dd g k c
  · exact h
  · exfalso
    refine full_tells ht hS hf hl hSn 12 i k hi (by omega) (by omega) (dd_le g i k) fun s hs => ?_
    by_cases e : dd g i s = dd g k s
    · exact e
    · exact absurd ⟨s, bit_lt hSn hs, hs, e⟩ h
/-! ### Resolving sets meet the legs -/
theorem on_leg {g : List Int} (ht : IsTree g) {l c : Nat} (lc : c < g.length) : ∀ {k u m : Nat}, Leg g l k u m → dd g u c < dd g m c → ∃ k' w, Leg g l k' c w
  | 0, u, m, h, hlt => by
    have hG := ht.graph
    obtain ⟨rfl, h2, h3⟩ := h
    by_cases e : u = c
    · subst e; exact ⟨0, m, rfl, h2, h3⟩
    · exfalso
      obtain ⟨z, z1, z2, -⟩ := ht.next c u lc (adj_lt hG h3).1 e
      obtain rfl := bits_one (hG.small u) h2 h3 z1
      omega
  | k + 1, m, m', h, hlt => by
    have hG := ht.graph
    have h' := h
    obtain ⟨⟨u, h1, h2⟩, h3, h4⟩ := h
    by_cases e : m = c
    · subst e; exact ⟨k + 1, m', h'⟩
    · obtain ⟨z, z1, z2, -⟩ := ht.next c m lc (adj_lt hG h4).1 e
      have hzm : z ≠ m' := fun e => by subst e; omega
      obtain rfl := bits_two (hG.small m) h3 h4 (adj_symm hG (leg_adj h1)) z1 (fun e => h2 e.symm) hzm
      exact on_leg ht lc h1 (by omega)
/-- Going back along another leaf's leg one never comes to a fork. -/
theorem no_back {g : List Int} (hg : IsGraph g) {l l' f : Nat} (hf : Fork g l' f) : ∀ {k a b k' : Nat}, Leg g l k a b → Leg g l' k' b a → False
  | 0, a, b, k', h, h' => by
    obtain ⟨rfl, h2, h3⟩ := h
    obtain ⟨kf, u, h4, h5⟩ := hf
    have h6 := fork_stop hg h4 h5 h'
    by_cases e : k' = kf
    · subst e
      obtain ⟨-, rfl⟩ := leg_det hg h4 h'
      omega
    · obtain ⟨p, q, h7, h8⟩ := leg_less h4 (show k' < kf by omega)
      obtain ⟨-, rfl⟩ := leg_det hg h' h7
      omega
  | k + 1, a, b, k', h, h' => by
    obtain ⟨⟨u, h1, h2⟩, h3, h4⟩ := h
    exact no_back hg hf h1 (k' := k' + 1) ⟨⟨b, h', fun e => h2 e.symm⟩, h3, adj_symm hg (leg_adj h1)⟩
/-- No node lies on the legs of two leaves that have forks. -/
theorem leg_apart {g : List Int} (hg : IsGraph g) {l l' f f' c k k' w w' : Nat} (_ : Fork g l f) (hf' : Fork g l' f') (h : Leg g l k c w) (h' : Leg g l' k' c w') : l = l' := by
  cases k with
  | zero =>
    cases k' with
    | zero => exact h.1.symm.trans h'.1
    | succ k' =>
      have h1 := h.2.1
      have h2 := h'.2.1
      rw [h.1] at h2
      omega
  | succ k =>
    cases k' with
    | zero =>
      have h1 := h'.2.1
      have h2 := h.2.1
      rw [h'.1] at h2
      omega
    | succ k' =>
      by_cases e : w = w'
      · subst e; exact (leg_inj hg h h').1
      · exfalso
        obtain ⟨⟨u, h1, h2⟩, h3, h4⟩ := h
        have h'' := h'
        obtain ⟨⟨u', h5, h6⟩, h7, h8⟩ := h'
        obtain rfl := bits_two (hg.small c) h3 h4 h8 (adj_symm hg (leg_adj h1)) (fun e' => e e'.symm) (fun e' => h2 e'.symm)
        exact no_back hg hf' h1 h''

/-! ### Counting -/
theorem cnt_inject (φ : Nat → Nat) : ∀ n A B, cnt A ≤ n → A ≤ 4095 → B ≤ 4095 → (∀ a, A.testBit a = true → B.testBit (φ a) = true) → (∀ a a', A.testBit a = true → A.testBit a' = true → φ a = φ a' → a = a') → cnt A ≤ cnt B
  | n, A, B, hn, hA, hB, h1, h2 => by
    by_cases h0 : cnt A = 0
    · omega
    · obtain ⟨a, ha⟩ := bits_some hA h0
      obtain ⟨a1, a2, a3⟩ := bits_drop hA ha
      obtain ⟨b1, b2, b3⟩ := bits_drop hB (h1 a ha)
      cases n with
      | zero => omega
      | succ n =>
        have := cnt_inject φ n (without A (2 ^ a)) (without B (2 ^ φ a)) (by omega) a2 b2
          (fun x hx => (b3 _).2 ⟨h1 x ((a3 x).1 hx).1, fun e => ((a3 x).1 hx).2 (h2 x a ((a3 x).1 hx).1 ha e)⟩)
          (fun x y hx hy => h2 x y ((a3 x).1 hx).1 ((a3 y).1 hy).1)
        omega
/-- The set of the numbers below k for which p holds. -/
def mask (p : Nat → Bool) : Nat → Nat
  | 0 => 0
  | k + 1 => if p k then bor (mask p k) (2 ^ k) else mask p k
theorem mask_lt (p : Nat → Bool) : ∀ k, mask p k < 2 ^ k
  | 0 => by simp [mask]
  | k + 1 => by
    have h := mask_lt p k
    unfold mask
    split
    · exact bor_lt (Nat.lt_of_lt_of_le h (Nat.pow_le_pow_right (by omega) (by omega))) (Nat.pow_lt_pow_right (by omega) (by omega))
    · exact Nat.lt_of_lt_of_le h (Nat.pow_le_pow_right (by omega) (by omega))
theorem mask_bit (p : Nat → Bool) (i : Nat) : ∀ k, (mask p k).testBit i = (decide (i < k) && p i)
  | 0 => by simp [mask]
  | k + 1 => by
    have ih := mask_bit p i k
    unfold mask
    by_cases e : i = k
    · subst e
      cases hp : p i
      · rw [if_neg (by decide), ih]; simp
      · rw [if_pos rfl, testBit_bor, Nat.testBit_two_pow]; simp
    · have h1 : decide (i < k + 1) = decide (i < k) := by
        rw [Bool.eq_iff_iff, decide_eq_true_iff, decide_eq_true_iff]; omega
      rw [h1]
      split
      · rw [testBit_bor, Nat.testBit_two_pow, ih, decide_eq_false (show ¬ k = i from fun e' => e e'.symm), Bool.or_false]
      · exact ih
theorem mask_small {p : Nat → Bool} {k : Nat} (hk : k ≤ 12) : mask p k ≤ 4095 := by
  have := mask_lt p k
  have := pow_le_12 hk
  omega
def leafB (g : List Int) (x : Nat) : Bool := decide (deg g x = 1)
def leavesN (g : List Int) : Nat := mask (leafB g) g.length
noncomputable def forkB (g : List Int) (f : Nat) : Bool := @decide (∃ l, Fork g l f) (Classical.propDecidable _)
noncomputable def forksN (g : List Int) : Nat := mask (forkB g) g.length
theorem leaves_bit {g : List Int} {x : Nat} : (leavesN g).testBit x = true ↔ x < g.length ∧ deg g x = 1 := by
  unfold leavesN leafB
  rw [mask_bit, Bool.and_eq_true, decide_eq_true_iff, decide_eq_true_iff]
theorem forks_bit {g : List Int} (hg : IsGraph g) {f : Nat} : (forksN g).testBit f = true ↔ ∃ l, Fork g l f := by
  unfold forksN forkB
  rw [mask_bit, Bool.and_eq_true, decide_eq_true_iff, @decide_eq_true_iff _ (Classical.propDecidable _)]
  constructor
  · exact fun h => h.2
  · rintro ⟨l, k, u, h1, h2⟩
    exact ⟨(adj_lt hg (leg_adj h1)).2, l, k, u, h1, h2⟩
theorem fork_leaf {g : List Int} (hg : IsGraph g) {l f : Nat} (h : Fork g l f) : (leavesN g).testBit l = true := by
  obtain ⟨k, u, h1, -⟩ := h
  exact leaves_bit.2 ⟨leg_lt hg h1, leg_leaf h1⟩
theorem leaves_small {g : List Int} (hg : IsGraph g) : leavesN g ≤ 4095 := mask_small hg.le
theorem forks_small {g : List Int} (hg : IsGraph g) : forksN g ≤ 4095 := mask_small hg.le
/-- Every fork has three neighbours, and there are not more forks than leaves. -/
theorem forks_few {g : List Int} (hg : IsGraph g) : cnt (forksN g) ≤ cnt (leavesN g) := by
  refine cnt_inject (fun f => @dite _ (∃ l, Fork g l f) (Classical.propDecidable _) (fun h => Classical.choose h) (fun _ => 0)) 12 _ _ (cnt_le _) (forks_small hg) (leaves_small hg) (fun f hf => ?_) (fun f f' hf hf' e => ?_)
  · have h := (forks_bit hg).1 hf
    simp only [dif_pos h]
    exact fork_leaf hg (Classical.choose_spec h)
  · have h := (forks_bit hg).1 hf
    have h' := (forks_bit hg).1 hf'
    simp only [dif_pos h, dif_pos h'] at e
    have h1 := Classical.choose_spec h
    have h2 := Classical.choose_spec h'
    rw [e] at h1
    exact fork_uniq hg h1 h2
theorem forks_deg {g : List Int} (hg : IsGraph g) {f : Nat} (h : (forksN g).testBit f = true) : 3 ≤ deg g f := by
  obtain ⟨l, k, u, -, h⟩ := (forks_bit hg).1 h
  exact h
end Go.Proofs.Ytpmammklklkheaa

/- A tree's least resolving code has as many nodes as leaves and forks tell; what a tree is by its edges: plain. No condition. -/
namespace Go.Proofs.Ytpmammklklkheaa

theorem max_of {P : Nat → Prop} : ∀ n, (∃ l, P l) → (∀ l, P l → l < n) → ∃ l, P l ∧ ∀ l', P l' → l' ≤ l
  | 0, ⟨l, h⟩, hb => absurd (hb l h) (Nat.not_lt_zero l)
  | n + 1, h, hb => by
    by_cases e : P n
    · exact ⟨n, e, fun l' h' => by have := hb l' h'; omega⟩
    · exact max_of n h fun l hl => by
        have := hb l hl
        by_cases e' : l = n
        · subst e'; exact absurd hl e
        · omega
/-- Without a fork the way from a leaf meets all nodes. -/
theorem all_on_leg {g : List Int} (ht : IsTree g) {l : Nat} (hl : deg g l = 1) (ll : l < g.length) (hn : ∀ f, ¬ Fork g l f) : ∀ k v, v < g.length → dd g v l = k + 1 → ∃ u, Leg g l k u v
  | 0, v, lv, hd => by
    have hG := ht.graph
    have hvl : v ≠ l := fun e => by rw [e, dd_self hG] at hd; omega
    exact ⟨l, rfl, hl, adj_symm hG ((dd_one hG hvl).1 hd)⟩
  | k + 1, v, lv, hd => by
    have hG := ht.graph
    have hvl : v ≠ l := fun e => by rw [e, dd_self hG] at hd; omega
    obtain ⟨z, z1, z2, -⟩ := ht.next l v ll lv hvl
    obtain ⟨u, hu⟩ := all_on_leg ht hl ll hn k z (adj_lt hG z1).2 (by omega)
    have du := leg_dist ht hu
    have hvu : v ≠ u := fun e => by rw [← e] at du; omega
    have h3 : ¬ 3 ≤ deg g z := fun h => hn z ⟨k, u, hu, h⟩
    have q1 := bits_drop (hG.small z) (adj_symm hG z1)
    have q2 := bits_pos q1.2.1 ((q1.2.2 u).2 ⟨adj_symm hG (leg_adj hu), fun e => hvu e.symm⟩)
    refine ⟨z, ⟨u, hu, hvu⟩, ?_, adj_symm hG z1⟩
    unfold deg at h3 ⊢
    omega
theorem leaf_fork {g : List Int} (ht : IsTree g) {l f : Nat} (hl : deg g l = 1) (ll : l < g.length) (hf : 3 ≤ deg g f) : ∃ f, Fork g l f := by
  by_cases h : ∃ f, Fork g l f
  · exact h
  · exfalso
    have hG := ht.graph
    have hfl : f ≠ l := fun e => by subst e; omega
    have lf : f < g.length := by
      by_cases e : f < g.length
      · exact e
      · unfold deg at hf
        rw [gN_out (by omega)] at hf
        exact absurd hf (by decide)
    have h0 : dd g f l ≠ 0 := fun e => hfl ((dd_zero hG).1 e).symm
    obtain ⟨u, hu⟩ := all_on_leg ht hl ll (fun f' hf' => h ⟨f', hf'⟩) (dd g f l - 1) f lf (by omega)
    exact h ⟨f, _, u, hu, hf⟩
/-! ### A least one -/
noncomputable def lowB (g : List Int) (l : Nat) : Bool := @decide (∃ l' f, Fork g l f ∧ Fork g l' f ∧ l < l') (Classical.propDecidable _)
noncomputable def lowN (g : List Int) : Nat := mask (lowB g) g.length
theorem low_bit {g : List Int} (hg : IsGraph g) {l : Nat} : (lowN g).testBit l = true ↔ ∃ l' f, Fork g l f ∧ Fork g l' f ∧ l < l' := by
  unfold lowN lowB
  rw [mask_bit, Bool.and_eq_true, decide_eq_true_iff, @decide_eq_true_iff _ (Classical.propDecidable _)]
  constructor
  · exact fun h => h.2
  · rintro ⟨l', f, h1, h2, h3⟩
    exact ⟨(leaves_bit.1 (fork_leaf hg h1)).1, l', f, h1, h2, h3⟩
theorem low_full {g : List Int} (hg : IsGraph g) : Full g (lowN g) := fun l l' f h h' hne => by
  rcases Nat.lt_or_ge l l' with h1 | h1
  · exact .inl ((low_bit hg).2 ⟨l', f, h, h', h1⟩)
  · exact .inr ((low_bit hg).2 ⟨l, f, h', h, by omega⟩)
theorem low_cnt {g : List Int} (hg : IsGraph g) : cnt (lowN g) + cnt (forksN g) ≤ cnt (leavesN g) := by
  have h1 := cnt_split (leavesN g) (lowN g)
  have e : band (leavesN g) (lowN g) = lowN g := by
    apply Nat.eq_of_testBit_eq
    intro i
    rw [testBit_band]
    cases h : (lowN g).testBit i
    · rw [Bool.and_false]
    · obtain ⟨l', f, h2, -⟩ := (low_bit hg).1 h
      rw [fork_leaf hg h2]; rfl
  rw [e] at h1
  have hch : ∀ f, (∃ l, Fork g l f) → ∃ l, Fork g l f ∧ ∀ l', Fork g l' f → l' ≤ l := fun f h =>
    max_of g.length h fun l hl => (leaves_bit.1 (fork_leaf hg hl)).1
  have h2 : cnt (forksN g) ≤ cnt (without (leavesN g) (lowN g)) := by
    refine cnt_inject (fun f => @dite _ (∃ l, Fork g l f) (Classical.propDecidable _) (fun h => Classical.choose (hch f h)) (fun _ => 0)) 12 _ _ (cnt_le _) (forks_small hg) (without_le _ _ (leaves_small hg)) (fun f hf => ?_) (fun f f' hf hf' e => ?_)
    · have h := (forks_bit hg).1 hf
      simp only [dif_pos h]
      obtain ⟨c1, c2⟩ := Classical.choose_spec (hch f h)
      rw [testBit_without, fork_leaf hg c1, Bool.true_and, Bool.not_eq_true']
      cases hb : (lowN g).testBit (Classical.choose (hch f h))
      · rfl
      · obtain ⟨l', f', k1, k2, k3⟩ := (low_bit hg).1 hb
        obtain rfl := fork_uniq hg c1 k1
        have := c2 l' k2
        omega
    · have h := (forks_bit hg).1 hf
      have h' := (forks_bit hg).1 hf'
      simp only [dif_pos h, dif_pos h'] at e
      have c1 := (Classical.choose_spec (hch f h)).1
      have c2 := (Classical.choose_spec (hch f' h')).1
      rw [e] at c1
      exact fork_uniq hg c1 c2
  omega
theorem low_leaf {g : List Int} (hg : IsGraph g) {s : Nat} (h : (lowN g).testBit s = true) : deg g s = 1 := by
  obtain ⟨l', f, h2, -⟩ := (low_bit hg).1 h
  exact (leaves_bit.1 (fork_leaf hg h2)).2
/-! ### No smaller one -/
theorem res_cnt {g : List Int} (ht : IsTree g) {R f : Nat} (hR : resN g R = true) (hRn : R < 2 ^ g.length) (hf : 3 ≤ deg g f) : cnt (leavesN g) ≤ cnt R + cnt (forksN g) := by
  have hG := ht.graph
  have hp := pow_le_12 hG.le
  let hit : Nat → Prop := fun l => ∃ c, R.testBit c = true ∧ ∃ k w, Leg g l k c w
  let H : Nat := mask (fun l => leafB g l && @decide (hit l) (Classical.propDecidable _)) g.length
  have Hb : ∀ l, H.testBit l = true ↔ (l < g.length ∧ deg g l = 1) ∧ hit l := fun l => by
    show (mask _ _).testBit l = true ↔ _
    rw [mask_bit, Bool.and_eq_true, Bool.and_eq_true, decide_eq_true_iff, @decide_eq_true_iff _ (Classical.propDecidable _)]
    unfold leafB
    rw [decide_eq_true_iff, and_assoc]
  have h4 : H ≤ 4095 := mask_small hG.le
  have h1 := cnt_split (leavesN g) H
  have e : band (leavesN g) H = H := by
    apply Nat.eq_of_testBit_eq
    intro i
    rw [testBit_band]
    cases h : H.testBit i
    · rw [Bool.and_false]
    · rw [leaves_bit.2 ((Hb i).1 h).1]; rfl
  rw [e] at h1
  have h2 : cnt H ≤ cnt R := by
    refine cnt_inject (fun l => @dite _ (hit l) (Classical.propDecidable _) (fun h => Classical.choose h) (fun _ => 0)) 12 _ _ (cnt_le _) h4 (by omega) (fun l hl => ?_) (fun l l' hl hl' e => ?_)
    · have h := ((Hb l).1 hl).2
      simp only [dif_pos h]
      exact (Classical.choose_spec h).1
    · have h := ((Hb l).1 hl).2
      have h' := ((Hb l').1 hl').2
      simp only [dif_pos h, dif_pos h'] at e
      obtain ⟨k, w, c1⟩ := (Classical.choose_spec h).2
      obtain ⟨k', w', c2⟩ := (Classical.choose_spec h').2
      rw [e] at c1
      obtain ⟨f1, hf1⟩ := leaf_fork ht ((Hb l).1 hl).1.2 ((Hb l).1 hl).1.1 hf
      obtain ⟨f2, hf2⟩ := leaf_fork ht ((Hb l').1 hl').1.2 ((Hb l').1 hl').1.1 hf
      exact leg_apart hG hf1 hf2 c1 c2
  have h3 : cnt (without (leavesN g) H) ≤ cnt (forksN g) := by
    have hK : ∀ l, (without (leavesN g) H).testBit l = true → (l < g.length ∧ deg g l = 1) ∧ ¬ hit l := fun l hl => by
      rw [testBit_without, Bool.and_eq_true, Bool.not_eq_true'] at hl
      have h1 := leaves_bit.1 hl.1
      exact ⟨h1, fun h => by rw [(Hb l).2 ⟨h1, h⟩] at hl; exact absurd hl.2 (by decide)⟩
    refine cnt_inject (fun l => @dite _ (∃ f, Fork g l f) (Classical.propDecidable _) (fun h => Classical.choose h) (fun _ => 0)) 12 _ _ (cnt_le _) (without_le _ _ (leaves_small hG)) (forks_small hG) (fun l hl => ?_) (fun l l' hl hl' e => ?_)
    · have h := leaf_fork ht (hK l hl).1.2 (hK l hl).1.1 hf
      simp only [dif_pos h]
      exact (forks_bit hG).2 ⟨l, Classical.choose_spec h⟩
    · have h := leaf_fork ht (hK l hl).1.2 (hK l hl).1.1 hf
      have h' := leaf_fork ht (hK l' hl').1.2 (hK l' hl').1.1 hf
      simp only [dif_pos h, dif_pos h'] at e
      have c1 := Classical.choose_spec h
      have c2 := Classical.choose_spec h'
      rw [e] at c1
      obtain ⟨k1, u1, L1, hd1⟩ := c1
      obtain ⟨k2, u2, L2, hd2⟩ := c2
      by_cases hu : u1 = u2
      · subst hu; exact (leg_inj hG L1 L2).1
      · exfalso
        have a1 := leg_adj L1
        have a2 := leg_adj L2
        obtain ⟨lu1, lf⟩ := adj_lt hG a1
        obtain ⟨lu2, -⟩ := adj_lt hG a2
        have hc : ∃ c, c < g.length ∧ R.testBit c = true ∧ dd g u1 c ≠ dd g u2 c := by
          rcases Nat.lt_or_ge u2 u1 with h5 | h5
          · exact resN_iff.1 hR u1 lu1 u2 h5
          · obtain ⟨c, q1, q2, q3⟩ := resN_iff.1 hR u2 lu2 u1 (by omega)
            exact ⟨c, q1, q2, fun e => q3 e.symm⟩
        obtain ⟨c, lc, hRc, hne⟩ := hc
        rcases ht.step lc (adj_symm hG a1) with s1 | s1
        · obtain ⟨k', w, hL⟩ := on_leg ht lc L1 (by omega)
          exact (hK l hl).2 ⟨c, hRc, k', w, hL⟩
        · rcases ht.step lc (adj_symm hG a2) with s2 | s2
          · obtain ⟨k', w, hL⟩ := on_leg ht lc L2 (by omega)
            exact (hK l' hl').2 ⟨c, hRc, k', w, hL⟩
          · omega
  omega
/-! ### Paths -/
theorem path_tells {g : List Int} (ht : IsTree g) {l : Nat} (hl : deg g l = 1) (ll : l < g.length) (hd : ∀ x, deg g x ≤ 2) : ∀ k x y, x < g.length → y < g.length → dd g x l = k → dd g y l = k → x = y
  | 0, x, y, _, _, h1, h2 => by rw [← (dd_zero ht.graph).1 h1, ← (dd_zero ht.graph).1 h2]
  | k + 1, x, y, lx, ly, h1, h2 => by
    have hG := ht.graph
    have hxl : x ≠ l := fun e => by rw [e, dd_self hG] at h1; omega
    have hyl : y ≠ l := fun e => by rw [e, dd_self hG] at h2; omega
    obtain ⟨a, a1, a2, -⟩ := ht.next l x ll lx hxl
    obtain ⟨b, b1, b2, -⟩ := ht.next l y ll ly hyl
    obtain rfl := path_tells ht hl ll hd k a b (adj_lt hG a1).2 (adj_lt hG b1).2 (by omega) (by omega)
    by_cases e : a = l
    · subst e
      exact bits_one (hG.small a) hl (adj_symm hG a1) (adj_symm hG b1)
    · obtain ⟨z, z1, z2, -⟩ := ht.next l a ll (adj_lt hG a1).2 e
      have hxz : x ≠ z := fun e' => by subst e'; omega
      have hyz : y ≠ z := fun e' => by subst e'; omega
      have q1 := bits_drop (hG.small a) z1
      have q2 := bits_pos q1.2.1 ((q1.2.2 x).2 ⟨adj_symm hG a1, hxz⟩)
      have q3 := hd a
      exact bits_two (hG.small a) (show cnt (gN g a) = 2 by unfold deg at q3; omega) z1 (adj_symm hG a1) (adj_symm hG b1) hxz hyz
theorem max_at (f : Nat → Nat) : ∀ n, 0 < n → ∃ v, v < n ∧ ∀ w, w < n → f w ≤ f v
  | 1, _ => ⟨0, by omega, fun w hw => by obtain rfl : w = 0 := by omega
                                         exact Nat.le_refl _⟩
  | n + 2, _ => by
    obtain ⟨v, h1, h2⟩ := max_at f (n + 1) (by omega)
    by_cases h : f (n + 1) ≤ f v
    · exact ⟨v, by omega, fun w hw => by
        by_cases e : w = n + 1
        · subst e; exact h
        · exact h2 w (by omega)⟩
    · exact ⟨n + 1, by omega, fun w hw => by
        by_cases e : w = n + 1
        · subst e; exact Nat.le_refl _
        · have := h2 w (by omega); omega⟩
/-- A tree of two nodes or more has a leaf. -/
theorem has_leaf {g : List Int} (ht : IsTree g) (hn : 2 ≤ g.length) : ∃ l, l < g.length ∧ deg g l = 1 := by
  have hG := ht.graph
  obtain ⟨v, h1, h2⟩ := max_at (fun v => dd g v 0) g.length (by omega)
  have h3 := h2 1 (by omega)
  have h10 : dd g 1 0 ≠ 0 := fun e => by have := (dd_zero hG).1 e; omega
  have hv : v ≠ 0 := fun e => by
    subst e
    simp only [dd_self hG] at h3
    omega
  obtain ⟨z, z1, z2, z3⟩ := ht.next 0 v (by omega) h1 hv
  refine ⟨v, h1, ?_⟩
  obtain ⟨q1, q2, q3⟩ := bits_drop (hG.small v) z1
  by_cases e : cnt (without (gN g v) (2 ^ z)) = 0
  · unfold deg; omega
  · obtain ⟨b, hb⟩ := bits_some q2 e
    obtain ⟨b1, b2⟩ := (q3 b).1 hb
    have := z3 b b1 b2
    have := h2 b (adj_lt hG b1).2
    omega
/-! ### The number -/
noncomputable def treeNum (g : List Int) : Nat := if g.length = 1 then 0 else if forksN g = 0 then 1 else cnt (leavesN g) - cnt (forksN g)
theorem least_is {g : List Int} (hg : IsGraph g) {T S : Nat} (hS : S < 2 ^ g.length) (h1 : resN g S = true) (h2 : cnt S ≤ T) (h3 : ∀ R, R < 2 ^ g.length → resN g R = true → T ≤ cnt R) : leastNumber g 3 = (((T : Nat) : Int), true) := by
  obtain ⟨b, hb, hbl, hbp, hbc⟩ := lo_has (p := kindN g 3) hS (by rw [kind3_eq]; exact h1)
  have h4 := h3 b hbl (by rw [← kind3_eq]; exact hbp)
  have e : cnt b = T := by omega
  rw [← e]
  exact least_of (K := 3) hg (by omega) hb
theorem tree_least {g : List Int} (ht : IsTree g) : leastNumber g 3 = (((treeNum g : Nat) : Int), true) := by
  have hG := ht.graph
  have hpos := hG.pos
  unfold treeNum
  by_cases hn : g.length = 1
  · rw [if_pos hn]
    refine least_is hG (S := 0) (Nat.two_pow_pos _) ?_ (by decide) (fun _ _ _ => Nat.zero_le _)
    rw [resN_iff]
    intro i hi k hk
    omega
  · rw [if_neg hn]
    by_cases hf : forksN g = 0
    · rw [if_pos hf]
      have hd : ∀ x, deg g x ≤ 2 := fun x => by
        rcases Nat.lt_or_ge (deg g x) 3 with h | h
        · omega
        · exfalso
          obtain ⟨s, -, hs⟩ := full_some (S := 0) ht (fun l l' f h1 _ _ => by
            have := (forks_bit hG).2 ⟨l, h1⟩
            rw [hf, Nat.zero_testBit] at this
            cases this) h
          rw [Nat.zero_testBit] at hs
          cases hs
      obtain ⟨l, ll, hl⟩ := has_leaf ht (by omega)
      refine least_is hG (S := 2 ^ l) (Nat.pow_lt_pow_right (by omega) ll) ?_ (by rw [cnt_two_pow l (by have := hG.le; omega)]; exact Nat.le_refl _) (fun R hR hr => ?_)
      · rw [resN_iff]
        intro i hi k hk
        refine ⟨l, ll, by rw [Nat.testBit_two_pow, decide_eq_true rfl], fun e => ?_⟩
        have := path_tells ht hl ll hd _ i k hi (by omega) rfl e.symm
        omega
      · obtain ⟨c, -, hc, -⟩ := resN_iff.1 hr 1 (by omega) 0 (by omega)
        exact bits_pos (by have := pow_le_12 hG.le; omega) hc
    · rw [if_neg hf]
      obtain ⟨f, hf'⟩ := bits_some (forks_small hG) (fun e => hf ((cnt_zero (forks_small hG)).1 e))
      have h3 := forks_deg hG hf'
      have h4 := low_cnt hG
      exact least_is hG (S := lowN g) (mask_lt _ _) (full_res ht (low_full hG) h3 (fun s hs => low_leaf hG hs) (mask_lt _ _)) (by omega) (fun R hR hr => by
        have := res_cnt ht hr hR h3
        omega)
end Go.Proofs.Ytpmammklklkheaa
