/- The words that all contracts of this seat share: a world that extends another, a slice of integers that is read, and the class of worlds for a statement whose order is drawn. No condition. -/
import Derived.Test.YtpmammklklkheaaProg
import Derived.Test.YtpmammklklkheaaPlain
import Derived.KernelRfl
import Derived.WalkKit
import Derived.WalkSpells
import Derived.Test.YtpmammklklkheaaQuiet
import Derived.IntWalk
import Derived.Lib.Hide
namespace Go.Proofs.Ytpmammklklkheaa
open Go.RowKit

/-- w' is w with new blocks: whatever lay there lies there as it did. -/
def Ext (w w' : World) : Prop := Below w.heap.size w w'
theorem Ext.refl (w : World) : Ext w w := Below.refl _ w
theorem Ext.trans {a b c : World} (h : Ext a b) (k : Ext b c) : Ext a c := Below.trans h (Below.mono k h.size)
theorem Ext.size {a b : World} (h : Ext a b) : a.heap.size ≤ b.heap.size := Below.size h
theorem Ext.drew {a b : World} (h : Ext a b) : Ext a b.drew := Below.drew h
theorem Ext.alloc {a b : World} (h : Ext a b) (o : Obj) : Ext a (b.alloc o) := Below.alloc h h.size o
theorem Ext.setCell {a b : World} (h : Ext a b) {p : Addr} (hp : a.heap.size ≤ p.block) (u : Value) : Ext a (b.setCell p u) := Below.setCell h hp u
theorem Ext.grown {a b c : World} {row : Option Nat} (h : Ext a b) (hg : b.grownBy c row) (hr : ∀ k, row = some k → a.heap.size ≤ k) : Ext a c := Below.grown h hg h.size hr
theorem Ext.below {B : Nat} {a b : World} (h : Ext a b) (hB : B ≤ a.heap.size) : Below B a b := Below.mono h hB
theorem Ext.cell {a b : World} (h : Ext a b) {x o : Nat} (hx : x < a.heap.size) : b.cell? ⟨x, o, none⟩ = a.cell? ⟨x, o, none⟩ := Below.cell (p := ⟨x, o, none⟩) h hx
theorem Ext.frozen {a b : World} (h : Ext a b) {x o : Nat} (hx : x < a.heap.size) : b.frozen? ⟨x, o, none⟩ = a.frozen? ⟨x, o, none⟩ := Below.frozen (p := ⟨x, o, none⟩) h hx
theorem Ext.block {a b : World} (h : Ext a b) {x : Nat} (hx : x < a.heap.size) : b.heap[x]? = a.heap[x]? := Below.block h x hx
theorem Ext.drewN (w : World) (n : Nat) : Ext w (w.drewN n) := ⟨rfl, rfl, rfl, Nat.le_refl _, fun _ _ => rfl⟩

/-- The worlds that extend w, named by whatever world. -/
noncomputable def clip (w u : World) : World := @ite _ (Ext w u) (Classical.propDecidable _) u w
theorem clip_ext (w u : World) : Ext w (clip w u) := by
  unfold clip
  split
  · assumption
  · exact Ext.refl w
theorem clip_of {w u : World} (h : Ext w u) : clip w u = u := by
  unfold clip
  rw [if_pos h]
theorem clip_cell (w u : World) {x o : Nat} (hx : x < w.heap.size) : (clip w u).cell? ⟨x, o, none⟩ = w.cell? ⟨x, o, none⟩ := (clip_ext w u).cell hx
theorem wp_region_ext {P : Program} {id : Nat} {Q : Exit → Act → World → Prop} {a : Act} {w : World} {l : List Oper} (hm : P.follows .mixedOrders = true) (hB : Region.lexB .any l.toArray = true)
    (h : wpQuiet P l.toArray (fun w' => ∃ u, w' = clip w u) (fun a' => ∀ w', (∃ u, w' = clip w u) → Q .normal a' w') l a) : (Code.region id l.toArray true).wp P Q a w :=
  wp_region_quiet (C := fun w' => ∃ u, w' = clip w u) hm hB ⟨w.drew, (clip_of (Ext.refl w).drew).symm⟩ (by simpa using h)
/-- At a call inside such a statement. -/
theorem Calls.clip_of {P : Program} {f : FuncId} {args : Array Value} {w u : World} {v : Value}
    (h : Calls P f args (clip w u) fun e w' => e = .returned v ∧ Ext (clip w u) w') : Calls P f args (clip w u) fun e w'' => e = .returned v ∧ ∃ u', w'' = clip w u' :=
  h.mono fun _ _ ⟨he, hx⟩ => ⟨he, _, (Proofs.Ytpmammklklkheaa.clip_of ((clip_ext w u).trans hx)).symm⟩

theorem Calls.clip_same {P : Program} {f : FuncId} {args : Array Value} {w u : World} {v : Value}
    (h : Calls P f args (clip w u) fun e w' => e = .returned v ∧ clip w u = w') : Calls P f args (clip w u) fun e w'' => e = .returned v ∧ ∃ u', w'' = clip w u' :=
  h.mono fun _ _ ⟨he, hx⟩ => ⟨he, _, hx.symm⟩

/-- A slice of integers that is read, nil or not: its cells lie below the heap's end. -/
def Rd (w : World) (v : Value) (xs : List Int) : Prop :=
  ∃ a c, v = .slice a xs.length c ∧ (xs.length = 0 ∨ ∃ b o, a = some ⟨b, o, none⟩ ∧ b < w.heap.size ∧ xs.length ≤ c ∧ (∀ i, i < xs.length → w.cell? ⟨b, o + i, none⟩ = some (.int .i64 (xs.getD i 0))))
theorem Rd.ext {w w' : World} {v : Value} {xs : List Int} (h : Rd w v xs) (hx : Ext w w') : Rd w' v xs := by
  obtain ⟨a, c, rfl, h⟩ := h
  refine ⟨a, c, rfl, h.imp id ?_⟩
  rintro ⟨b, o, rfl, hb, hc, h⟩
  exact ⟨b, o, rfl, Nat.lt_of_lt_of_le hb hx.size, hc, fun i hi => (hx.cell hb).trans (h i hi)⟩
/-- Its element i: the address, and what the cell holds in every world that extends w. -/
theorem Rd.at {w : World} {a : Option Addr} {n c : Nat} {xs : List Int} (h : Rd w (.slice a n c) xs) {k : Nat} (hk : k < n) :
    ∃ b o, a = some ⟨b, o, none⟩ ∧ n = xs.length ∧ k < xs.length ∧ ∀ w', Ext w w' → w'.cell? ⟨b, o + k, none⟩ = some (.int .i64 (xs.getD k 0)) := by
  obtain ⟨a', c', e, h⟩ := h
  simp only [Value.slice.injEq] at e
  obtain ⟨rfl, rfl, rfl⟩ := e
  rcases h with h | ⟨b, o, rfl, hb, hc, h⟩
  · omega
  · exact ⟨b, o, rfl, rfl, hk, fun w' hx => (hx.cell hb).trans (h k hk)⟩
theorem Rd.len {w : World} {a : Option Addr} {n c : Nat} {xs : List Int} (h : Rd w (.slice a n c) xs) : n = xs.length := by
  obtain ⟨a', c', e, h⟩ := h
  simp only [Value.slice.injEq] at e
  exact e.2.1
theorem Rd.form {w : World} {v : Value} {xs : List Int} (h : Rd w v xs) : ∃ a c, v = .slice a xs.length c := by
  obtain ⟨a, c, rfl, _⟩ := h
  exact ⟨a, c, rfl⟩

/-! ### Bits of numbers that are not negative -/
theorem toNat_ofInt_nat (x : Nat) (h : x < 2 ^ 63) : (BitVec.ofInt 64 (x : Int)).toNat = x := by
  rw [BitVec.ofInt_natCast, BitVec.toNat_ofNat]
  exact Nat.mod_eq_of_lt (by omega)
theorem wrap_i64_nat (x : Nat) (h : x < 2 ^ 63) : IntKind.i64.wrap (x : Int) = x := IntWalk.i64_in _ (by omega)
theorem toNat_ofInt_u64 (x : Nat) (h : x < 2 ^ 64) : (BitVec.ofInt 64 (x : Int)).toNat = x := by
  rw [BitVec.ofInt_natCast, BitVec.toNat_ofNat]
  exact Nat.mod_eq_of_lt h
theorem bits_and (x y : Nat) (hx : x < 2 ^ 63) (hy : y < 2 ^ 63) : bits .and .i64 (x : Int) (y : Int) = (band x y : Int) := by
  unfold bits
  show IntKind.i64.wrap ((BitVec.ofInt 64 x &&& BitVec.ofInt 64 y).toNat : Int) = _
  rw [BitVec.toNat_and, toNat_ofInt_nat x hx, toNat_ofInt_nat y hy]
  exact wrap_i64_nat _ (Nat.and_lt_two_pow _ hy)
theorem bits_and_u64 (x y : Nat) (hx : x < 2 ^ 63) (hy : y < 2 ^ 63) : bits .and .u64 (x : Int) (y : Int) = (band x y : Int) := by
  unfold bits
  show IntKind.u64.wrap ((BitVec.ofInt 64 x &&& BitVec.ofInt 64 y).toNat : Int) = _
  rw [BitVec.toNat_and, toNat_ofInt_nat x hx, toNat_ofInt_nat y hy]
  have : x &&& y < 2 ^ 63 := Nat.and_lt_two_pow _ hy
  exact IntWalk.u64_in _ (by omega)
theorem bits_or (x y : Nat) (hx : x < 2 ^ 63) (hy : y < 2 ^ 63) : bits .or .i64 (x : Int) (y : Int) = (bor x y : Int) := by
  unfold bits
  show IntKind.i64.wrap ((BitVec.ofInt 64 x ||| BitVec.ofInt 64 y).toNat : Int) = _
  rw [BitVec.toNat_or, toNat_ofInt_nat x hx, toNat_ofInt_nat y hy]
  exact wrap_i64_nat _ (Nat.or_lt_two_pow hx hy)
theorem bits_xor (x y : Nat) (hx : x < 2 ^ 63) (hy : y < 2 ^ 63) : bits .xor .i64 (x : Int) (y : Int) = (bxor x y : Int) := by
  unfold bits
  show IntKind.i64.wrap ((BitVec.ofInt 64 x ^^^ BitVec.ofInt 64 y).toNat : Int) = _
  rw [BitVec.toNat_xor, toNat_ofInt_nat x hx, toNat_ofInt_nat y hy]
  exact wrap_i64_nat _ (Nat.xor_lt_two_pow hx hy)
theorem bits_andNot (x y : Nat) (hx : x < 2 ^ 63) (hy : y < 2 ^ 63) : bits .andNot .i64 (x : Int) (y : Int) = (without x y : Int) := by
  unfold bits
  show IntKind.i64.wrap ((BitVec.ofInt 64 x &&& ~~~ BitVec.ofInt 64 y).toNat : Int) = _
  have e : (BitVec.ofInt 64 (x : Int) &&& ~~~ BitVec.ofInt 64 (y : Int)).toNat = without x y := by
    apply Nat.eq_of_testBit_eq
    intro i
    rw [testBit_without]
    have h1 : ∀ z : Nat, z < 2 ^ 63 → ∀ i, (BitVec.ofInt 64 (z : Int)).getLsbD i = z.testBit i := by
      intro z hz i
      rw [← BitVec.testBit_toNat, toNat_ofInt_nat z hz]
    rw [BitVec.testBit_toNat, BitVec.getLsbD_and, BitVec.getLsbD_not, h1 x hx, h1 y hy]
    by_cases hi : i < 64
    · simp [hi]
    · have : x.testBit i = false := Nat.testBit_lt_two_pow (Nat.lt_of_lt_of_le hx (Nat.pow_le_pow_right (by decide) (by omega)))
      simp [this]
  rw [e]
  exact wrap_i64_nat _ (without_lt hx)
theorem div_pow_nat (n k : Nat) : (n : Int) / 2 ^ k = (shr n k : Int) := by
  unfold shr
  rw [Nat.shiftRight_eq_div_pow]
  simp
theorem testBit_shift (n k : Nat) : ((((band (shr n k) 1 : Nat) : Int) == 1) : Bool) = n.testBit k := by
  unfold band shr
  rw [Nat.testBit, Nat.and_comm]
  have h : 1 &&& n >>> k = 0 ∨ 1 &&& n >>> k = 1 := by rw [Nat.and_comm, Nat.and_one_is_mod]; omega
  rcases h with h | h <;> rw [h] <;> rfl
theorem bit_shift (n k : Nat) : band (shr n k) 1 = (n.testBit k).toNat := by
  have h : band (shr n k) 1 = 0 ∨ band (shr n k) 1 = 1 := by unfold band shr; rw [Nat.and_one_is_mod]; omega
  rw [← testBit_shift n k]
  rcases h with h | h <;> rw [h] <;> rfl

/-! ### Slices of integers that the call itself makes -/
theorem info_int : (Try.prog.info? 3).map (fun i => (i.zero, i.size, i.bytes)) = some (some (.int .i64 0), 1, 8) := by kernel_rfl
/-- The slice value v leads to a row of the call's own, from block base on, that holds xs. -/
def Own (w : World) (base : Nat) (v : Value) (xs : List Int) : Prop := w.ownsRow base 3 1 v xs.length (xs.map (Value.int .i64))
theorem Own.nil (w : World) (base : Nat) : Own w base (.slice none 0 0) [] := World.ownsRow_nil _ _ _ _
theorem Own.drew {w : World} {base : Nat} {v : Value} {xs : List Int} (h : Own w base v xs) : Own w.drew base v xs := World.ownsRow.drew h
theorem Own.ext {w w' : World} {base : Nat} {v : Value} {xs : List Int} (h : Own w base v xs) (hx : Ext w w') : Own w' base v xs := by
  obtain ⟨h1, h2⟩ := h
  refine ⟨h1, ?_⟩
  rcases h2 with h2 | ⟨g, cap, cur, hv, hg, hh, r⟩
  · exact Or.inl h2
  · exact Or.inr ⟨g, cap, cur, hv, hg, (hx.block (Array.getElem?_eq_some_iff.1 hh).1).trans hh, r⟩
theorem Own.mono {w : World} {base base' : Nat} {v : Value} {xs : List Int} (h : Own w base v xs) (hb : base' ≤ base) : Own w base' v xs := by
  obtain ⟨h1, h2⟩ := h
  refine ⟨h1, ?_⟩
  rcases h2 with h2 | ⟨g, cap, cur, hv, hg, r⟩
  · exact Or.inl h2
  · exact Or.inr ⟨g, cap, cur, hv, Nat.le_trans hb hg, r⟩
theorem Own.len {w : World} {base : Nat} {v : Value} {xs : List Int} (h : Own w base v xs) : xs.length ≤ maxLen := by
  obtain ⟨_, ⟨_, h2⟩ | ⟨g, cap, cur, hv, hg, hh, h3, h4, _⟩⟩ := h
  · omega
  · omega
/-- What it is: nil, or a value at the head of a row, each cell of which is known and may be written. -/
theorem Own.get {w : World} {base : Nat} {v : Value} {xs : List Int} (h : Own w base v xs) :
    (v = .slice none 0 0 ∧ xs = []) ∨ ∃ g c, v = .slice (some ⟨g, 0, none⟩) xs.length c ∧ base ≤ g ∧ g < w.heap.size ∧ xs.length ≤ c ∧ (∀ i, i < xs.length → w.cell? ⟨g, i, none⟩ = some (.int .i64 (xs.getD i 0))) ∧ (∀ i, w.frozen? ⟨g, i, none⟩ = false) := by
  have h0 := h
  obtain ⟨h1, ⟨hv, h2⟩ | ⟨g, cap, cur, hv, hg, hh, h3, h4, h5, h6⟩⟩ := h
  · exact .inl ⟨hv, List.eq_nil_of_length_eq_zero h2⟩
  · subst hv
    refine .inr ⟨g, cap, rfl, hg, (Array.getElem?_eq_some_iff.1 hh).1, h3, fun i hi => ?_, fun i => World.ownsRow.frozenAt h0 i⟩
    rw [World.ownsRow.cellAt h0 i (by omega)]
    simp [hi]
/-- Its element k. -/
theorem Own.at {w : World} {base g c n : Nat} {xs : List Int} (h : Own w base (.slice (some ⟨g, 0, none⟩) n c) xs) :
    n = xs.length ∧ n ≤ c ∧ base ≤ g ∧ g < w.heap.size ∧ (∀ k, k < n → w.cell? ⟨g, k, none⟩ = some (.int .i64 (xs.getD k 0))) ∧ (∀ k, w.frozen? ⟨g, k, none⟩ = false) := by
  rcases h.get with ⟨h, _⟩ | ⟨g', c', e, h1, h2, h3, h4, h5⟩
  · cases h
  · simp only [Value.slice.injEq, Option.some.injEq, Addr.mk.injEq] at e
    obtain ⟨⟨rfl, _, _⟩, rfl, rfl⟩ := e
    exact ⟨rfl, h3, h1, h2, h4, h5⟩
theorem Own.set {w : World} {base g c n : Nat} {xs : List Int} (h : Own w base (.slice (some ⟨g, 0, none⟩) n c) xs) (i : Nat) (z : Int) :
    Own (w.setCell ⟨g, i, none⟩ (.int .i64 z)) base (.slice (some ⟨g, 0, none⟩) n c) (xs.set i z) := by
  have hn : n = xs.length := by
    obtain ⟨_, ⟨hv, _⟩ | ⟨g', cap, cur, hv, _⟩⟩ := h
    · cases hv
    · cases hv; rfl
  subst hn
  have := (World.ownsRow.stored h i (.int .i64 z)).1
  unfold Own
  simpa using this
theorem Own.rd {w : World} {base : Nat} {v : Value} {xs : List Int} (h : Own w base v xs) : Rd w v xs := by
  rcases h.get with ⟨rfl, rfl⟩ | ⟨g, c, rfl, _, hg, hc, h, _⟩
  · exact ⟨none, 0, rfl, .inl rfl⟩
  · exact ⟨_, c, rfl, .inr ⟨g, 0, rfl, hg, hc, fun i hi => by rw [Nat.zero_add]; exact h i hi⟩⟩
/-- A slice of integers that came in. -/
theorem rd_of {w : World} {a : Option Addr} {len cap : Nat} {zs : List Int}
    (h : (a = none ∧ len = 0 ∧ cap = 0 ∧ zs = []) ∨ ∃ x, a = some x ∧ len ≤ cap ∧ cap ≤ maxLen ∧ zs.length = cap ∧ (∀ i, i < zs.length → w.cell? (x.add i) = some (.int .i64 (zs.getD i 0))) ∧ ∀ n ∈ zs, (Lit.int .i64 n).wf = true) :
    Rd w (.slice a len cap) (zs.take len) := by
  rcases h with ⟨rfl, rfl, rfl, rfl⟩ | ⟨⟨b, o, sp⟩, rfl, hl, _, hz, hc, _⟩
  · exact ⟨none, 0, rfl, .inl rfl⟩
  · have hlen : (zs.take len).length = len := by simp; omega
    refine ⟨_, cap, by rw [hlen], ?_⟩
    by_cases h0 : len = 0
    · exact .inl (by omega)
    · have c0 := hc 0 (by omega)
      have hsp : sp = none := by
        cases sp with
        | none => rfl
        | some q =>
          simp [World.cell?, Addr.add] at c0
          split at c0 <;> simp at c0
      subst hsp
      refine .inr ⟨b, o, rfl, ?_, by omega, fun i hi => ?_⟩
      · have := World.block_lt_of_cell? _ _ c0
        simpa [Addr.add] using this
      · have := hc i (by omega)
        rw [Addr.add_lit] at this
        rw [this]
        have h1 : i < zs.length := by omega
        simp [h1, show i < len from by omega]
theorem rd_len {w : World} {a : Option Addr} {len cap : Nat} {xs : List Int} (h : Rd w (.slice a len cap) xs) : xs.length = len := h.len.symm
end Go.Proofs.Ytpmammklklkheaa
