/- What draws: bytes that are read, the reader, its numbers. The condition: at most 2^20 numbers are drawn. -/
import Derived.Test.YtpmammklklkheaaAskD
namespace Go.Proofs.Ytpmammklklkheaa
open Go.RowKit
open BigFrame

/-- A slice of bytes that is read. -/
def Rb (w : World) (v : Value) (bs : List Int) : Prop :=
  ∃ a c, v = .slice a bs.length c ∧ bs.length ≤ c ∧ (bs.length = 0 ∨ ∃ b o, a = some ⟨b, o, none⟩ ∧ b < w.heap.size ∧ ∀ i, i < bs.length → ∃ y : Nat, y ≤ 255 ∧ w.cell? ⟨b, o + i, none⟩ = some (.int .u8 y))
theorem Rb.ext {w w' : World} {v : Value} {bs : List Int} (h : Rb w v bs) (hx : Ext w w') : Rb w' v bs := by
  obtain ⟨a, c, rfl, hl, h⟩ := h
  refine ⟨a, c, rfl, hl, h.imp id ?_⟩
  rintro ⟨b, o, rfl, hb, h⟩
  exact ⟨b, o, rfl, Nat.lt_of_lt_of_le hb hx.size, fun i hi => by obtain ⟨y, hy, hc⟩ := h i hi; exact ⟨y, hy, (hx.cell hb).trans hc⟩⟩
theorem rb_of {w : World} {a : Option Addr} {len cap : Nat} {zs : List Int}
    (h : (a = none ∧ len = 0 ∧ cap = 0 ∧ zs = []) ∨ ∃ x, a = some x ∧ len ≤ cap ∧ cap ≤ maxLen ∧ zs.length = cap ∧ (∀ i, i < zs.length → w.cell? (x.add i) = some (.int .u8 (zs.getD i 0))) ∧ ∀ n ∈ zs, (Lit.int .u8 n).wf = true) :
    Rb w (.slice a len cap) (zs.take len) := by
  rcases h with ⟨rfl, rfl, rfl, rfl⟩ | ⟨⟨b, o, sp⟩, rfl, hl, _, hz, hc, hw⟩
  · exact ⟨none, 0, rfl, Nat.le_refl _, .inl rfl⟩
  · have hlen : (zs.take len).length = len := by simp; omega
    refine ⟨_, cap, by rw [hlen], by omega, ?_⟩
    by_cases h0 : len = 0
    · exact .inl (by omega)
    · have c0 := hc 0 (by omega)
      have hsp : sp = none := by
        cases sp with
        | none => rfl
        | some q =>
          simp [World.cell?, Addr.add] at c0
          split at c0 <;> simp at c0
      subst hsp
      refine .inr ⟨b, o, rfl, ?_, fun i hi => ?_⟩
      · have := World.block_lt_of_cell? _ _ c0
        simpa [Addr.add] using this
      · have h1 : i < zs.length := by omega
        have := hc i h1
        rw [Addr.add_lit] at this
        have hm := hw (zs.getD i 0) (by rw [List.getD_eq_getElem?_getD, List.getElem?_eq_getElem h1]; exact List.getElem_mem h1)
        have hr : 0 ≤ zs.getD i 0 ∧ zs.getD i 0 ≤ 255 := by
          have h2 : (decide (IntKind.u8.min ≤ zs.getD i 0) && decide (zs.getD i 0 ≤ IntKind.u8.max)) = true := hm
          rw [Bool.and_eq_true, decide_eq_true_iff, decide_eq_true_iff] at h2
          exact h2
        exact ⟨(zs.getD i 0).toNat, by omega, by rw [this]; congr 2; omega⟩
/-- The reader at block b, made behind the world w0; at most m numbers have been drawn. -/
def RdOk (w0 : World) (b m : Nat) (w : World) : Prop :=
  ∃ v bs p, Rb w0 v bs ∧ bs.length ≤ 2000 ∧ w0.heap.size ≤ b ∧ p ≤ m ∧ w.cell? ⟨b, 0, none⟩ = some v ∧ w.cell? ⟨b, 1, none⟩ = some (.int .i64 (p : Nat)) ∧ w.frozen? ⟨b, 1, none⟩ = false ∧ b < w.heap.size ∧ Ext w0 w
theorem RdOk.next {w0 w w' : World} {b m : Nat} (h : RdOk w0 b m w) (hx : Ext w w') : RdOk w0 b m w' := by
  obtain ⟨v, bs, p, h1, h2, h3, h4, h5, h6, h7, h8, h9⟩ := h
  exact ⟨v, bs, p, h1, h2, h3, h4, (hx.cell h8).trans h5, (hx.cell h8).trans h6, (hx.frozen h8).trans h7, Nat.lt_of_lt_of_le h8 hx.size, h9.trans hx⟩
theorem RdOk.more {w0 w : World} {b m n : Nat} (h : RdOk w0 b m w) (hn : m ≤ n) : RdOk w0 b n w := by
  obtain ⟨v, bs, p, h1, h2, h3, h4, h5⟩ := h
  exact ⟨v, bs, p, h1, h2, h3, Nat.le_trans h4 hn, h5⟩
theorem RdOk.ext {w0 w : World} {b m : Nat} (h : RdOk w0 b m w) : Ext w0 w := by
  obtain ⟨v, bs, p, h1, h2, h3, h4, h5, h6, h7, h8, h9⟩ := h; exact h9
theorem RdOk.lt {w0 w : World} {b m : Nat} (h : RdOk w0 b m w) : w0.heap.size ≤ b ∧ b < w.heap.size := by
  obtain ⟨v, bs, p, h1, h2, h3, h4, h5, h6, h7, h8, h9⟩ := h; exact ⟨h3, h8⟩
theorem RdOk.below {w0 w w' : World} {b m : Nat} (h : RdOk w0 b m w) (hx : Below (b + 1) w w') : RdOk w0 b m w' := by
  obtain ⟨v, bs, p, h1, h2, h3, h4, h5, h6, h7, h8, h9⟩ := h
  refine ⟨v, bs, p, h1, h2, h3, h4, (Below.cell (p := ⟨b, 0, none⟩) hx (by show b < b + 1; omega)).trans h5, (Below.cell (p := ⟨b, 1, none⟩) hx (by show b < b + 1; omega)).trans h6, (Below.frozen (p := ⟨b, 1, none⟩) hx (by show b < b + 1; omega)).trans h7, Nat.lt_of_lt_of_le h8 (Below.size hx), ?_⟩
  exact ⟨hx.os.trans h9.os, hx.tape.trans h9.tape, hx.output.trans h9.output, Nat.le_trans h9.size hx.size, fun i hi => (Below.block hx i (by omega)).trans (h9.block hi)⟩

set_option maxHeartbeats 1000000 in
theorem l6Open_c (v : Value) (bs : List Int) (w : World) (hv : Rb w v bs) (hm : bs.length ≤ 1048576) :
    Calls Try.prog 44 #[v] w fun e w' => e = .returned (.pointer (some ⟨w.heap.size, 0, none⟩)) ∧ RdOk w w.heap.size 0 w' ∧ Ext w w' := by
  obtain ⟨a, c, rfl, hc, h⟩ := hv
  obtain ⟨n, hn⟩ : ∃ n, n = bs.length := ⟨_, rfl⟩
  have HH := Lib.hid h
  have HN := Lib.hid hn
  rw [← hn] at hm hc ⊢
  clear h hn
  have hnew : ∀ u : Value, RdOk w w.heap.size 0 (w.alloc (.cells #[u, .int .i64 0] 72)) ∨ ∀ us, us.length ≤ 2000 → ¬ Rb w u us := fun u => by
    by_cases hu : ∃ us, us.length ≤ 2000 ∧ Rb w u us
    · obtain ⟨us, h1, h2⟩ := hu
      have h3 := two_cells (World.alloc_heap_new w (.cells #[u, .int .i64 0] 72))
      refine .inl ⟨u, us, 0, h2, h1, Nat.le_refl _, Nat.le_refl _, h3.1, h3.2, ?_, by simp, (Ext.refl w).alloc _⟩
      have := World.alloc_heap_new w (.cells #[u, .int .i64 0] 72)
      generalize w.alloc (.cells #[u, .int .i64 0] 72) = W at this ⊢
      simp [World.frozen?, this]
    · exact .inr fun us h1 h2 => hu ⟨us, h1, h2⟩
  have HNEW := Lib.hid hnew
  clear hnew
  by_cases hl : n ≤ 2000
  · have HR : Hid (RdOk w w.heap.size 0 (w.alloc (.cells #[.slice a n c, .int .i64 0] 72))) := by
      rcases HNEW.out (.slice a n c) with h | h
      · exact h
      · exact absurd ⟨a, c, by rw [HN.out], by rw [← HN.out]; exact hc, HH.out⟩ (h bs (by rw [← HN.out]; exact hl))
    go_enter Try.func44, Try.ntmps44
    go_wp2
    go_ret
    exact ⟨rfl, HR.out, (Ext.refl w).alloc _⟩
  · have HR : Hid (RdOk w w.heap.size 0 (w.alloc (.cells #[.slice a 2000 c, .int .i64 0] 72))) := by
      rcases HNEW.out (.slice a 2000 c) with h | h
      · exact h
      · have hlen : (bs.take 2000).length = 2000 := by rw [List.length_take, ← HN.out]; omega
        refine absurd ⟨a, c, by rw [hlen], by rw [hlen]; omega, ?_⟩ (h (bs.take 2000) (by rw [hlen]; exact Nat.le_refl _))
        rcases HH.out with h | ⟨b, o, h1, h2, h3⟩
        · exact absurd h (by rw [← HN.out]; omega)
        · exact .inr ⟨b, o, h1, h2, fun i hi => h3 i (by rw [← HN.out]; omega)⟩
    obtain ⟨b, o, rfl, -⟩ : ∃ b o, a = some ⟨b, o, none⟩ ∧ True := by
      rcases HH.out with h | ⟨b, o, h1, -⟩
      · rw [← HN.out] at h; omega
      · exact ⟨b, o, h1, trivial⟩
    go_enter Try.func44, Try.ntmps44
    go_wp2
    go_ret
    exact ⟨rfl, HR.out, (Ext.refl w).alloc _⟩

theorem upd_setCell (w : World) (b : Nat) (i : Nat) (u : Value) : Upd b w (w.setCell ⟨b, i, none⟩ u) :=
  ⟨rfl, rfl, rfl, by simp, fun k _ hne => Below.heap_setCell _ _ _ _ (fun e => hne e)⟩
theorem RdOk.put {w0 w : World} {b m p : Nat} {v : Value} {bs : List Int} (h1 : Rb w0 v bs) (h2 : bs.length ≤ 2000) (h3 : w0.heap.size ≤ b) (hp : p ≤ m) (c0 : w.cell? ⟨b, 0, none⟩ = some v) (c1 : w.cell? ⟨b, 1, none⟩ = some (.int .i64 (p : Nat))) (f1 : w.frozen? ⟨b, 1, none⟩ = false) (hlt : b < w.heap.size) (hx : Ext w0 w) :
    RdOk w0 b (m + 1) (w.setCell ⟨b, 1, none⟩ (.int .i64 (((p + 1 : Nat)) : Int))) :=
  ⟨v, bs, p + 1, h1, h2, h3, by omega, (World.cell?_setCell_other _ _ _ _ (by simp)).trans c0, World.cell?_setCell_same' _ _ _ (by rw [c1]; rfl), by rw [World.frozen?_setCell]; exact f1, by simpa using hlt, hx.setCell h3 _⟩

set_option maxRecDepth 100000 in
set_option maxHeartbeats 4000000 in
theorem pick_c (w0 : World) (b m n : Nat) (w : World) (h : RdOk w0 b m w) (hm : m ≤ 1000000) (hn : 1 ≤ n) (hn2 : n ≤ 1000000) :
    Calls Try.prog 59 #[.pointer (some ⟨b, 0, none⟩), .int .i64 n] w fun e w' => ∃ x : Nat, e = .returned (.int .i64 x) ∧ x < n ∧ RdOk w0 b (m + 1) w' ∧ Upd b w w' := by
  obtain ⟨v, bs, p, h1, h2, h3, h4, h5, h6, h7, h8, h9⟩ := h
  obtain ⟨V, hV⟩ : ∃ V, V = w.setCell ⟨b, 1, none⟩ (.int .i64 (((p : Nat) : Int) + 1)) := ⟨_, rfl⟩
  have hok : RdOk w0 b (m + 1) V := by rw [hV]; exact RdOk.put h1 h2 h3 h4 h5 h6 h7 h8 h9
  have hup : Upd b w V := by rw [hV]; exact upd_setCell w b 1 _
  have d0 : V.cell? ⟨b, 0, none⟩ = some v := by rw [hV]; exact (World.cell?_setCell_other _ _ _ _ (by simp)).trans h5
  have d1 : V.cell? ⟨b, 1, none⟩ = some (.int .i64 (((p : Nat) : Int) + 1)) := by rw [hV]; exact World.cell?_setCell_same' _ _ _ (by rw [h6]; rfl)
  have hxV : Ext w0 V := hok.ext
  have hbV : b < V.heap.size := hok.lt.2
  have HOK := Lib.hid hok; have HUP := Lib.hid hup
  obtain ⟨a, c, rfl, hc, hb⟩ := h1.ext hxV
  obtain ⟨L, hL⟩ : ∃ L, L = bs.length := ⟨_, rfl⟩
  rw [← hL] at h2 hc hb d0 h5
  have HB := Lib.hid hb
  have HV := Lib.hid hV
  clear hb hL h1 hok hup hxV hc h9 h8
  by_cases hL0 : L = 0
  · have hz : ((L : Int) == 0) = true := by simp [hL0]
    rw [hV] at d0
    go_enter Try.func59, Try.ntmps59
    go_wp2
    rw [← HV.out]
    go_ret
    exact ⟨0, rfl, by omega, HOK.out, HUP.out⟩
  · have hz : ((L : Int) == 0) = false := by simp [hL0]
    obtain ⟨bb, ob, rfl, hbb, hby⟩ : ∃ bb ob, a = some ⟨bb, ob, none⟩ ∧ bb < V.heap.size ∧ ∀ i, i < L → ∃ y : Nat, y ≤ 255 ∧ V.cell? ⟨bb, ob + i, none⟩ = some (.int .u8 y) := by
      rcases HB.out with h | ⟨x, y, h1, h2, h3⟩
      · exact absurd h hL0
      · exact ⟨x, y, h1, h2, h3⟩
    by_cases hpL : p < L
    · obtain ⟨y, hy, cy⟩ := hby p hpL
      have e0 := d0
      have e1 := d1
      rw [hV] at d0 d1 cy
      clear hby hbb hbV e0 e1 hV
      have hmod : Hid (∃ r : Nat, r < n ∧ ((y : Int) % (n : Int)) = r) := ⟨y % n, Nat.mod_lt _ (by omega), by simp⟩
      obtain ⟨r, hr1, hr2⟩ := hmod.out
      go_enter Try.func59, Try.ntmps59
      go_wp2
      rw [← HV.out]
      go_ret
      exact ⟨r, ret_int hr2, hr1, HOK.out, HUP.out⟩
    · obtain ⟨i1, hi1, e1⟩ : ∃ i : Nat, i < L ∧ ((p : Int) % (L : Int)) = (i : Int) := ⟨p % L, Nat.mod_lt _ (by omega), by simp⟩
      obtain ⟨i2, hi2, e2⟩ : ∃ i : Nat, i < L ∧ (((p : Int) * 7 + 3) % (L : Int)) = (i : Int) := ⟨(p * 7 + 3) % L, Nat.mod_lt _ (by omega), by simp⟩
      obtain ⟨q, hq, e3⟩ : ∃ i : Nat, i ≤ p ∧ ((p : Int) / (L : Int)) = (i : Int) := ⟨p / L, Nat.div_le_self _ _, by simp⟩
      obtain ⟨y1, hy1, cy1⟩ := hby i1 hi1
      obtain ⟨y2, hy2, cy2⟩ := hby i2 hi2
      obtain ⟨X, hX⟩ : ∃ X : Nat, X = y1 * 131 + y2 * 1117 + p * 29 + q * 53 := ⟨_, rfl⟩
      have e4 : (y1 : Int) * 131 + (y2 : Int) * 1117 + (p : Int) * 29 + (q : Int) * 53 = (X : Int) := by omega
      have hXs : X ≤ 1000000000 := by omega
      obtain ⟨X6, hX6, e5⟩ : ∃ i : Nat, i ≤ X ∧ ((X : Int) / 64) = (i : Int) := ⟨X / 64, Nat.div_le_self _ _, by simp⟩
      obtain ⟨Z, hZ, e6⟩ : ∃ Z : Nat, Z ≤ 1073741823 ∧ bits .xor .i64 (X : Int) (X6 : Int) = (Z : Int) := ⟨bxor X X6, by have := bxor_lt (x := X) (y := X6) (n := 30) (by omega) (by omega); omega, bits_xor X X6 (by omega) (by omega)⟩
      obtain ⟨r, hr1, hr2⟩ : ∃ r : Nat, r < n ∧ ((Z : Int) % (n : Int)) = r := ⟨Z % n, Nat.mod_lt _ (by omega), by simp⟩
      have k0 := fun u => ((clip_ext V u).cell hbV).trans d0
      have k2 := fun u => ((clip_ext V u).cell hbb).trans cy1
      have k3 := fun u => ((clip_ext V u).cell hbb).trans cy2
      have HXC := Lib.hid fun u => clip_ext V u
      rw [hV] at d0 d1
      clear hby hbb hbV cy1 cy2 hX hV
      go_enter Try.func59, Try.ntmps59
      go_wp2
      rw [← HV.out]
      refine wp_region_ext (by kernel_rfl) (by kernel_rfl) ?_
      repeat (go_big_quiet_step (fail))
      refine wpQuiet_nil ?_
      rintro _ ⟨u, rfl⟩
      go_wp2
      go_ret
      exact ⟨r, ret_int hr2, hr1, HOK.out.next (HXC.out u), HUP.out.trans (Upd.of_ext (HXC.out u))⟩
end Go.Proofs.Ytpmammklklkheaa
