/- What the walk of FnSensorFind rests on, part 5: plain facts, and contracts of the functions that it reaches. Each states its own condition. -/
import Derived.Test.YtpmammklklkheaaFnSensorFindP4
import Derived.Test.YtpmammklklkheaaFnSensorFindP2
import Derived.Deep.AppendLies
import Derived.Deep.RegionLaw
import Derived.Test.YtpmammklklkheaaFnSensorFindP1
/- The asker's depths: each set's depth is found, whatever the map of depths already holds. The condition: a graph of at most 12 nodes. -/
namespace Go.Proofs.Ytpmammklklkheaa
open Go.RowKit
open BigFrame

/-- w' is w but for new blocks, and for what lies at block b. -/
structure Upd (b : Nat) (w w' : World) : Prop where
  os : w'.os = w.os
  tape : w'.tape = w.tape
  output : w'.output = w.output
  size : w.heap.size ≤ w'.heap.size
  block : ∀ i, i < w.heap.size → i ≠ b → w'.heap[i]? = w.heap[i]?
theorem Upd.refl (b : Nat) (w : World) : Upd b w w := ⟨rfl, rfl, rfl, Nat.le_refl _, fun _ _ _ => rfl⟩
theorem Upd.trans {b : Nat} {x y z : World} (h : Upd b x y) (k : Upd b y z) : Upd b x z :=
  ⟨k.os.trans h.os, k.tape.trans h.tape, k.output.trans h.output, Nat.le_trans h.size k.size, fun i hi hne => (k.block i (Nat.lt_of_lt_of_le hi h.size) hne).trans (h.block i hi hne)⟩
theorem Upd.of_ext {b : Nat} {w w' : World} (h : Ext w w') : Upd b w w' := ⟨h.os, h.tape, h.output, h.size, fun _ hi _ => h.block hi⟩
theorem Ext.upd {b : Nat} {w0 w w' : World} (h : Ext w0 w) (hb : w0.heap.size ≤ b) (k : Upd b w w') : Ext w0 w' :=
  ⟨k.os.trans h.os, k.tape.trans h.tape, k.output.trans h.output, Nat.le_trans h.size k.size, fun i hi => (k.block i (Nat.lt_of_lt_of_le hi h.size) (by omega)).trans (h.block hi)⟩
theorem Upd.cell {b : Nat} {w w' : World} (h : Upd b w w') {x o : Nat} (hx : x < w.heap.size) (hne : x ≠ b) : w'.cell? ⟨x, o, none⟩ = w.cell? ⟨x, o, none⟩ :=
  World.cell?_of_block (a := ⟨x, o, none⟩) (h.block x hx hne)
theorem Upd.frozen {b : Nat} {w w' : World} (h : Upd b w w') {x o : Nat} (hx : x < w.heap.size) (hne : x ≠ b) : w'.frozen? ⟨x, o, none⟩ = w.frozen? ⟨x, o, none⟩ :=
  World.frozen?_of_block (a := ⟨x, o, none⟩) (h.block x hx hne)

theorem Own.upd {w w' : World} {b base : Nat} {v : Value} {xs : List Int} (h : Own w base v xs) (hb : b < base) (hu : Upd b w w') : Own w' base v xs := by
  obtain ⟨h1, h2⟩ := h
  refine ⟨h1, ?_⟩
  rcases h2 with h2 | ⟨g, cap, cur, hv, hg, hh, r⟩
  · exact Or.inl h2
  · exact Or.inr ⟨g, cap, cur, hv, hg, (hu.block g (Array.getElem?_eq_some_iff.1 hh).1 (by omega)).trans hh, r⟩
/-- The map at block b holds nothing but depths. -/
def Known (w : World) (b : Nat) (g : List Int) : Prop := ∃ f, IntMap w b f ∧ ∀ k v, f k = some v → ∃ s : Nat, k = (s : Int) ∧ v = .int .i64 ((never (dep g s) : Nat) : Int)
/-- The asker at block b + 1, made behind the world w0. -/
structure AskOk (w0 : World) (b : Nat) (v : Value) (g : List Int) (w : World) : Prop where
  map : Known w b g
  graph : w.cell? ⟨b + 1, 0, none⟩ = some v
  known : w.cell? ⟨b + 1, 1, none⟩ = some (.map (some b))
  size : b + 1 < w.heap.size
  ext : Ext w0 w
theorem AskOk.next {w0 w w' : World} {b : Nat} {v : Value} {g : List Int} (h : AskOk w0 b v g w) (hx : Ext w w') : AskOk w0 b v g w' :=
  ⟨h.map.imp fun _ hf => ⟨hf.1.ext hx, hf.2⟩, (hx.cell h.size).trans h.graph, (hx.cell h.size).trans h.known, Nat.lt_of_lt_of_le h.size hx.size, h.ext.trans hx⟩
theorem AskOk.is {w0 w : World} {b : Nat} {v : Value} {g : List Int} (h : AskOk w0 b v g w) : ∃ f, IsAsker w b v f :=
  h.map.imp fun _ hf => ⟨hf.1, h.graph, h.known, h.size⟩
theorem AskOk.of {w0 w : World} {b : Nat} {v : Value} {g : List Int} (h : IsAsker w b v (fun _ => none)) (hx : Ext w0 w) : AskOk w0 b v g w :=
  ⟨⟨_, h.map, fun _ _ h => by cases h⟩, h.graph, h.known, h.size, hx⟩

section
variable {w0 : World} {b : Nat} {v : Value} {g : List Int}
set_option maxHeartbeats 1000000 in
theorem after_of (hv : Rd w0 v g) (hg : IsGraph g) (_ : w0.heap.size ≤ b) (s x : Nat) (hs : s ≤ 4095) (hx : x < g.length)
    (ih : ∀ t w, t < s → t ≠ 0 → AskOk w0 b v g w → Calls Try.prog 54 #[.pointer (some ⟨b + 1, 0, none⟩), .int .i64 t] w fun e w' => e = .returned (.int .i64 (never (dep g t) : Nat)) ∧ AskOk w0 b v g w' ∧ Upd b w w')
    (w : World) (ha : AskOk w0 b v g w) :
    Calls Try.prog 93 #[.pointer (some ⟨b + 1, 0, none⟩), .int .i64 s, .int .i64 x] w fun e w' => e = .returned (.int .i64 (aft g s x : Nat)) ∧ AskOk w0 b v g w' ∧ Upd b w w' := by
  obtain ⟨f, hA⟩ := ha.is
  obtain ⟨I, hI⟩ : ∃ I, I = qIn g s x := ⟨_, rfl⟩
  obtain ⟨O, hO⟩ : ∃ O, O = without s (qIn g s x) := ⟨_, rfl⟩
  have HC : Hid (Calls Try.prog 117 #[.pointer (some ⟨b + 1, 0, none⟩), .int .i64 s, .int .i64 x] w fun e w' => e = .returned (.tuple #[.int .i64 (I : Nat), .int .i64 (O : Nat)]) ∧ Ext w w') := by
    rw [hI, hO]; exact split_c b v f g s x w hA (hv.ext ha.ext) hg hs hx
  have HA := Lib.hid ha; have HI := Lib.hid hI; have HO := Lib.hid hO; have HIH := Lib.hid ih
  clear ha hA hI hO ih
  by_cases h1 : I = 0
  · have hI0 : ((I : Int) == 0) = true := by simp [h1]
    go_enter Try.func93, Try.ntmps93
    go_wp2_with (go_at_call 117; refine HC.out.mono ?_; rintro e w1 ⟨rfl, x1⟩)
    go_ret
    exact ⟨ret_int (by unfold aft tells; rw [← HI.out]; simp [h1]), HA.out.next (by assumption), Upd.of_ext (by assumption)⟩
  · have hI0 : ((I : Int) == 0) = false := by simp [h1]
    by_cases h2 : O = 0
    · have hO0 : ((O : Int) == 0) = true := by simp [h2]
      go_enter Try.func93, Try.ntmps93
      go_wp2_with (go_at_call 117; refine HC.out.mono ?_; rintro e w1 ⟨rfl, x1⟩)
      go_ret
      exact ⟨ret_int (by unfold aft tells; rw [qOut_zero.1 (HO.out.symm.trans h2)]; simp), HA.out.next (by assumption), Upd.of_ext (by assumption)⟩
    · have hO0 : ((O : Int) == 0) = false := by simp [h2]
      have hT : Hid (tells g s x = true) := tells_iff.2 ⟨by rw [← HI.out]; exact h1, fun e => h2 (HO.out.trans (qOut_zero.2 e))⟩
      have hT' := tells_iff.1 hT.out
      have l1 : I < s := by rw [HI.out]; exact qIn_lt hT'.2
      have l2 : O < s := by rw [HO.out]; exact qOut_lt hT'.1
      go_enter Try.func93, Try.ntmps93
      go_wp2_with fail
      refine HC.out.mono ?_
      rintro e w1 ⟨rfl, x1⟩
      have A1 := Lib.hid (HA.out.next x1); have U1 := Lib.hid (Upd.of_ext (b := b) x1); clear x1
      go_wp2_with fail
      refine (HIH.out I _ l1 h1 A1.out).mono ?_
      rintro e w2 ⟨rfl, a2, u2⟩
      have A2 := Lib.hid a2; have U2 := Lib.hid (U1.out.trans u2); clear a2 u2
      go_wp2_with fail
      refine (HIH.out O _ l2 h2 A2.out).mono ?_
      rintro e w3 ⟨rfl, a3, u3⟩
      have HR : Hid (aft g s x = max (never (dep g I)) (never (dep g O))) := by
        unfold Hid aft
        rw [hT.out, if_pos rfl, ← HO.out, ← HI.out]
      go_wp2
      all_goals
        go_ret
        exact ⟨ret_int (by rw [HR.out]; omega), a3, U2.out.trans u3⟩

set_option maxRecDepth 100000 in
set_option maxHeartbeats 2000000 in
theorem depth_of (hv : Rd w0 v g) (hg : IsGraph g) (hb : w0.heap.size ≤ b) : ∀ (n s : Nat) (w : World), s ≤ n → s ≤ 4095 → s ≠ 0 → AskOk w0 b v g w →
    Calls Try.prog 54 #[.pointer (some ⟨b + 1, 0, none⟩), .int .i64 s] w fun e w' => e = .returned (.int .i64 (never (dep g s) : Nat)) ∧ AskOk w0 b v g w' ∧ Upd b w w' := by
  intro n
  induction n with
  | zero => intro s w h _ h0; omega
  | succ n ih =>
    intro s w hn hs h0 ha
    have hl := hg.le
    obtain ⟨a, c, rfl⟩ := hv.form
    have HA := Lib.hid ha
    have HS := Lib.hid (sizeC s hs)
    have HAF := Lib.hid fun x (hx : x < g.length) => after_of hv hg hb s x hs hx (fun t w ht h0 ha => ih t w (by omega) (by omega) h0 ha)
    have HD : Hid (dep g s = 0 ↔ cnt s = 1) := dep_pos hs h0
    have HM : Hid (band s (s - 1) = 0 ↔ cnt s ≤ 1) := one_iff hs
    have HG := Lib.hid hg
    have hz := mt (cnt_zero hs).1 h0
    clear ih hg
    by_cases h1 : cnt s = 1
    · have hc1 : ((cnt s : Int) == 1) = true := by simp [h1]
      go_enter Try.func54, Try.ntmps54
      go_wp2_with (go_at_call 57; refine (HS.out _).mono ?_; rintro e w' ⟨rfl, rfl⟩)
      go_ret
      exact ⟨ret_int (by rw [HD.out.2 h1]; rfl), HA.out, Upd.refl _ _⟩
    · have hc1 : ((cnt s : Int) == 1) = false := by simp; omega
      obtain ⟨f, hm, hf⟩ := ha.map
      have HL := Lib.hid (hm.lookup2 Try.underlying74 (show (zeroValue 3).run Try.prog w = .ok (.int .i64 0) w from rfl) s)
      have HMP := Lib.hid hm
      have c0 := ha.graph
      have c1 := ha.known
      cases hfs : f s with
      | some u =>
        obtain ⟨s', hs', hu⟩ := hf _ _ hfs
        have hs'' : s' = s := by omega
        subst hs'' hu
        have hlk := HL.out
        rw [hfs] at hlk
        simp only [Option.getD_some, Option.isSome_some] at hlk
        clear ha hm hf hfs
        go_enter Try.func54, Try.ntmps54
        go_wp2_with (go_at_call 57; refine (HS.out _).mono ?_; rintro e w' ⟨rfl, rfl⟩)
        go_ret
        exact ⟨rfl, HA.out, Upd.refl _ _⟩
      | none =>
        have hlk := HL.out
        rw [hfs] at hlk
        simp only [Option.getD_none, Option.isSome_none] at hlk
        clear ha hm hf hfs
        have HMO : Hid (dep g s = depTo g s g.length) := dep_more (mt HM.out.1 (by omega))
        go_enter Try.func54, Try.ntmps54
        go_wp2_with (go_at_call 57; refine (HS.out _).mono ?_; rintro e w' ⟨rfl, rfl⟩)
        clear hlk c0 c1
        go_loopw [7, 29] (fun d i wr => ∃ k D : Nat, k ≤ g.length ∧ i = .int .i64 k ∧ d = .int .i64 D ∧ Hid (D = never (depTo g s k)) ∧ Hid (D ≤ 1048576) ∧ Hid (AskOk w0 b (.slice a g.length c) g wr) ∧ Hid (Upd b w wr)) (fun _ i _ => g.length - (intOf i).toNat)
        case atStart => exact ⟨0, 1048576, Nat.zero_le _, rfl, rfl, rfl, Nat.le_refl _, HA.out, Upd.refl _ _⟩
        case round =>
          obtain ⟨k, D, hk, rfl, rfl, HDD, HD1, HAR, HU⟩ := hrel
          by_cases hlt : k < g.length
          · have HK := Lib.hid (HAF.out k hlt wr HAR.out)
            by_cases ha : aft g s k < 1048576
            · have HN := Lib.hid (never_min (x := k) hs ha)
              have hA11 := (aft_some hs ha).2
              obtain ⟨A, hA⟩ : ∃ A, A = aft g s k := ⟨_, rfl⟩
              rw [← hA] at ha HN HK hA11
              have hAt : decide ((A : Int) < 1048576) = true := by simp; omega
              clear hA ha
              go_wp2_with fail
              refine HK.out.mono ?_
              rintro e w1 ⟨rfl, a1, u1⟩
              have A1 := Lib.hid a1; have U1 := Lib.hid (HU.out.trans u1); clear a1 u1
              go_wp2
              all_goals
                go_roundw
                case rel => exact ⟨k + 1, min D (A + 1), by omega, by go_num, congrArg (Value.int .i64) (by omega), (congrArg (fun z => min z (A + 1)) HDD.out).trans HN.out.symm, by have := HD1.out; unfold Hid; omega, A1.out, U1.out⟩
                case measure => simp [intOf]; omega
            · have HN := Lib.hid (never_keep (x := k) hs ha)
              obtain ⟨A, hA⟩ : ∃ A, A = aft g s k := ⟨_, rfl⟩
              rw [← hA] at ha HK
              have hAt : decide ((A : Int) < 1048576) = false := by simp; omega
              clear hA ha
              go_wp2_with fail
              refine HK.out.mono ?_
              rintro e w1 ⟨rfl, a1, u1⟩
              have A1 := Lib.hid a1; have U1 := Lib.hid (HU.out.trans u1); clear a1 u1
              go_wp2
              go_roundw
              case rel => exact ⟨k + 1, D, by omega, by go_num, rfl, HDD.out.trans HN.out.symm, HD1, A1.out, U1.out⟩
              case measure => simp [intOf]; omega
          · obtain rfl : k = g.length := by omega
            have ho := HAR.out
            obtain ⟨f2, hm2, hf2⟩ := ho.map
            have c0 := ho.known
            have hsz := ho.size
            obtain ⟨W, hu, m4, hx4, hs4, ho4⟩ := hm2.update Try.underlying74 s (.int .i64 D)
            have HO := Lib.hid ho; have M4 := Lib.hid m4; have HX4 := Lib.hid hx4; have HS4 := Lib.hid hs4; have HO4 := Lib.hid ho4; have HF2 := Lib.hid hf2
            clear ho hm2 m4 hx4 hs4 ho4 hf2
            go_wp2
            go_ret
            have UW : Upd b wr W := by
              have hx := HX4.out w0 HO.out.ext hb
              have hy := HO.out.ext
              exact ⟨hx.os.trans hy.os.symm, hx.tape.trans hy.tape.symm, hx.output.trans hy.output.symm, by rw [HS4.out]; exact Nat.le_refl _, fun i _ hne => HO4.out i hne⟩
            refine ⟨ret_int (by rw [HMO.out, ← HDD.out]), ⟨⟨_, M4.out, fun k' u' h => ?_⟩, (UW.cell hsz (by omega)).trans HO.out.graph, (UW.cell hsz (by omega)).trans HO.out.known, by rw [HS4.out]; exact hsz, HO.out.ext.upd hb UW⟩, HU.out.trans UW⟩
            unfold put at h
            split at h
            · rename_i e
              cases h
              exact ⟨s, e, by rw [HMO.out, ← HDD.out]⟩
            · exact HF2.out _ _ h
end
end Go.Proofs.Ytpmammklklkheaa

/- What draws: bytes that are read, the reader, its numbers. The condition: at most 2^20 numbers are drawn. -/
namespace Go.Proofs.Ytpmammklklkheaa
open Go.RowKit
open BigFrame

/-- A slice of bytes that is read. -/
def Rb (w : World) (v : Value) (bs : List Int) : Prop :=
  ∃ a c, v = .slice a bs.length c ∧ bs.length ≤ c ∧ (bs.length = 0 ∨ ∃ b o, a = some ⟨b, o, none⟩ ∧ b < w.heap.size ∧ ∀ i, i < bs.length → ∃ y : Nat, y ≤ 255 ∧ w.cell? ⟨b, o + i, none⟩ = some (.int .u8 y))
theorem Rb.ext {w w' : World} {v : Value} {bs : List Int} (h : Rb w v bs) (hx : Ext w w') : Rb w' v bs := by
  obtain ⟨a, c, rfl, hl, h⟩ := h
  refine ⟨a, c, rfl, hl, h.imp id ?_⟩
  rintro ⟨b, o, rfl, hb, h⟩
  exact ⟨b, o, rfl, Nat.lt_of_lt_of_le hb hx.size, fun i hi => by obtain ⟨y, hy, hc⟩ := h i hi; exact ⟨y, hy, (hx.cell hb).trans hc⟩⟩
theorem rb_of {w : World} {a : Option Addr} {len cap : Nat} {zs : List Int}
    (h : (a = none ∧ len = 0 ∧ cap = 0 ∧ zs = []) ∨ ∃ x, a = some x ∧ len ≤ cap ∧ cap ≤ maxLen ∧ zs.length = cap ∧ (∀ i, i < zs.length → w.cell? (x.add i) = some (.int .u8 (zs.getD i 0))) ∧ ∀ n ∈ zs, (Lit.int .u8 n).wf = true) :
    Rb w (.slice a len cap) (zs.take len) := by
  rcases h with ⟨rfl, rfl, rfl, rfl⟩ | ⟨⟨b, o, sp⟩, rfl, hl, _, hz, hc, hw⟩
  · exact ⟨none, 0, rfl, Nat.le_refl _, .inl rfl⟩
  · have hlen : (zs.take len).length = len := by simp; omega
    refine ⟨_, cap, by rw [hlen], by omega, ?_⟩
    by_cases h0 : len = 0
    · exact .inl (by omega)
    · have c0 := hc 0 (by omega)
      have hsp : sp = none := by
        cases sp with
        | none => rfl
        | some q =>
          simp [World.cell?, Addr.add] at c0
          split at c0 <;> simp at c0
      subst hsp
      refine .inr ⟨b, o, rfl, ?_, fun i hi => ?_⟩
      · have := World.block_lt_of_cell? _ _ c0
        simpa [Addr.add] using this
      · have h1 : i < zs.length := by omega
        have := hc i h1
        rw [Addr.add_lit] at this
        have hm := hw (zs.getD i 0) (by rw [List.getD_eq_getElem?_getD, List.getElem?_eq_getElem h1]; exact List.getElem_mem h1)
        have hr : 0 ≤ zs.getD i 0 ∧ zs.getD i 0 ≤ 255 := by
          have h2 : (decide (IntKind.u8.min ≤ zs.getD i 0) && decide (zs.getD i 0 ≤ IntKind.u8.max)) = true := hm
          rw [Bool.and_eq_true, decide_eq_true_iff, decide_eq_true_iff] at h2
          exact h2
        exact ⟨(zs.getD i 0).toNat, by omega, by rw [this]; congr 2; omega⟩
/-- The reader at block b, made behind the world w0; at most m numbers have been drawn. -/
def RdOk (w0 : World) (b m : Nat) (w : World) : Prop :=
  ∃ v bs p, Rb w0 v bs ∧ bs.length ≤ 2000 ∧ w0.heap.size ≤ b ∧ p ≤ m ∧ w.cell? ⟨b, 0, none⟩ = some v ∧ w.cell? ⟨b, 1, none⟩ = some (.int .i64 (p : Nat)) ∧ w.frozen? ⟨b, 1, none⟩ = false ∧ b < w.heap.size ∧ Ext w0 w
theorem RdOk.next {w0 w w' : World} {b m : Nat} (h : RdOk w0 b m w) (hx : Ext w w') : RdOk w0 b m w' := by
  obtain ⟨v, bs, p, h1, h2, h3, h4, h5, h6, h7, h8, h9⟩ := h
  exact ⟨v, bs, p, h1, h2, h3, h4, (hx.cell h8).trans h5, (hx.cell h8).trans h6, (hx.frozen h8).trans h7, Nat.lt_of_lt_of_le h8 hx.size, h9.trans hx⟩
theorem RdOk.more {w0 w : World} {b m n : Nat} (h : RdOk w0 b m w) (hn : m ≤ n) : RdOk w0 b n w := by
  obtain ⟨v, bs, p, h1, h2, h3, h4, h5⟩ := h
  exact ⟨v, bs, p, h1, h2, h3, Nat.le_trans h4 hn, h5⟩
theorem RdOk.ext {w0 w : World} {b m : Nat} (h : RdOk w0 b m w) : Ext w0 w := by
  obtain ⟨v, bs, p, h1, h2, h3, h4, h5, h6, h7, h8, h9⟩ := h; exact h9
theorem RdOk.lt {w0 w : World} {b m : Nat} (h : RdOk w0 b m w) : w0.heap.size ≤ b ∧ b < w.heap.size := by
  obtain ⟨v, bs, p, h1, h2, h3, h4, h5, h6, h7, h8, h9⟩ := h; exact ⟨h3, h8⟩
theorem RdOk.below {w0 w w' : World} {b m : Nat} (h : RdOk w0 b m w) (hx : Below (b + 1) w w') : RdOk w0 b m w' := by
  obtain ⟨v, bs, p, h1, h2, h3, h4, h5, h6, h7, h8, h9⟩ := h
  refine ⟨v, bs, p, h1, h2, h3, h4, (Below.cell (p := ⟨b, 0, none⟩) hx (by show b < b + 1; omega)).trans h5, (Below.cell (p := ⟨b, 1, none⟩) hx (by show b < b + 1; omega)).trans h6, (Below.frozen (p := ⟨b, 1, none⟩) hx (by show b < b + 1; omega)).trans h7, Nat.lt_of_lt_of_le h8 (Below.size hx), ?_⟩
  exact ⟨hx.os.trans h9.os, hx.tape.trans h9.tape, hx.output.trans h9.output, Nat.le_trans h9.size hx.size, fun i hi => (Below.block hx i (by omega)).trans (h9.block hi)⟩

set_option maxHeartbeats 1000000 in
theorem l6Open_c (v : Value) (bs : List Int) (w : World) (hv : Rb w v bs) (hm : bs.length ≤ 1048576) :
    Calls Try.prog 44 #[v] w fun e w' => e = .returned (.pointer (some ⟨w.heap.size, 0, none⟩)) ∧ RdOk w w.heap.size 0 w' ∧ Ext w w' := by
  obtain ⟨a, c, rfl, hc, h⟩ := hv
  obtain ⟨n, hn⟩ : ∃ n, n = bs.length := ⟨_, rfl⟩
  have HH := Lib.hid h
  have HN := Lib.hid hn
  rw [← hn] at hm hc ⊢
  clear h hn
  have hnew : ∀ u : Value, RdOk w w.heap.size 0 (w.alloc (.cells #[u, .int .i64 0] 72)) ∨ ∀ us, us.length ≤ 2000 → ¬ Rb w u us := fun u => by
    by_cases hu : ∃ us, us.length ≤ 2000 ∧ Rb w u us
    · obtain ⟨us, h1, h2⟩ := hu
      have h3 := two_cells (World.alloc_heap_new w (.cells #[u, .int .i64 0] 72))
      refine .inl ⟨u, us, 0, h2, h1, Nat.le_refl _, Nat.le_refl _, h3.1, h3.2, ?_, by simp, (Ext.refl w).alloc _⟩
      have := World.alloc_heap_new w (.cells #[u, .int .i64 0] 72)
      generalize w.alloc (.cells #[u, .int .i64 0] 72) = W at this ⊢
      simp [World.frozen?, this]
    · exact .inr fun us h1 h2 => hu ⟨us, h1, h2⟩
  have HNEW := Lib.hid hnew
  clear hnew
  by_cases hl : n ≤ 2000
  · have HR : Hid (RdOk w w.heap.size 0 (w.alloc (.cells #[.slice a n c, .int .i64 0] 72))) := by
      rcases HNEW.out (.slice a n c) with h | h
      · exact h
      · exact absurd ⟨a, c, by rw [HN.out], by rw [← HN.out]; exact hc, HH.out⟩ (h bs (by rw [← HN.out]; exact hl))
    go_enter Try.func44, Try.ntmps44
    go_wp2
    go_ret
    exact ⟨rfl, HR.out, (Ext.refl w).alloc _⟩
  · have HR : Hid (RdOk w w.heap.size 0 (w.alloc (.cells #[.slice a 2000 c, .int .i64 0] 72))) := by
      rcases HNEW.out (.slice a 2000 c) with h | h
      · exact h
      · have hlen : (bs.take 2000).length = 2000 := by rw [List.length_take, ← HN.out]; omega
        refine absurd ⟨a, c, by rw [hlen], by rw [hlen]; omega, ?_⟩ (h (bs.take 2000) (by rw [hlen]; exact Nat.le_refl _))
        rcases HH.out with h | ⟨b, o, h1, h2, h3⟩
        · exact absurd h (by rw [← HN.out]; omega)
        · exact .inr ⟨b, o, h1, h2, fun i hi => h3 i (by rw [← HN.out]; omega)⟩
    obtain ⟨b, o, rfl, -⟩ : ∃ b o, a = some ⟨b, o, none⟩ ∧ True := by
      rcases HH.out with h | ⟨b, o, h1, -⟩
      · rw [← HN.out] at h; omega
      · exact ⟨b, o, h1, trivial⟩
    go_enter Try.func44, Try.ntmps44
    go_wp2
    go_ret
    exact ⟨rfl, HR.out, (Ext.refl w).alloc _⟩

theorem upd_setCell (w : World) (b : Nat) (i : Nat) (u : Value) : Upd b w (w.setCell ⟨b, i, none⟩ u) :=
  ⟨rfl, rfl, rfl, by simp, fun k _ hne => Below.heap_setCell _ _ _ _ (fun e => hne e)⟩
theorem RdOk.put {w0 w : World} {b m p : Nat} {v : Value} {bs : List Int} (h1 : Rb w0 v bs) (h2 : bs.length ≤ 2000) (h3 : w0.heap.size ≤ b) (hp : p ≤ m) (c0 : w.cell? ⟨b, 0, none⟩ = some v) (c1 : w.cell? ⟨b, 1, none⟩ = some (.int .i64 (p : Nat))) (f1 : w.frozen? ⟨b, 1, none⟩ = false) (hlt : b < w.heap.size) (hx : Ext w0 w) :
    RdOk w0 b (m + 1) (w.setCell ⟨b, 1, none⟩ (.int .i64 (((p + 1 : Nat)) : Int))) :=
  ⟨v, bs, p + 1, h1, h2, h3, by omega, (World.cell?_setCell_other _ _ _ _ (by simp)).trans c0, World.cell?_setCell_same' _ _ _ (by rw [c1]; rfl), by rw [World.frozen?_setCell]; exact f1, by simpa using hlt, hx.setCell h3 _⟩

set_option maxRecDepth 100000 in
set_option maxHeartbeats 4000000 in
theorem pick_c (w0 : World) (b m n : Nat) (w : World) (h : RdOk w0 b m w) (hm : m ≤ 1000000) (hn : 1 ≤ n) (hn2 : n ≤ 1000000) :
    Calls Try.prog 59 #[.pointer (some ⟨b, 0, none⟩), .int .i64 n] w fun e w' => ∃ x : Nat, e = .returned (.int .i64 x) ∧ x < n ∧ RdOk w0 b (m + 1) w' ∧ Upd b w w' := by
  obtain ⟨v, bs, p, h1, h2, h3, h4, h5, h6, h7, h8, h9⟩ := h
  obtain ⟨V, hV⟩ : ∃ V, V = w.setCell ⟨b, 1, none⟩ (.int .i64 (((p : Nat) : Int) + 1)) := ⟨_, rfl⟩
  have hok : RdOk w0 b (m + 1) V := by rw [hV]; exact RdOk.put h1 h2 h3 h4 h5 h6 h7 h8 h9
  have hup : Upd b w V := by rw [hV]; exact upd_setCell w b 1 _
  have d0 : V.cell? ⟨b, 0, none⟩ = some v := by rw [hV]; exact (World.cell?_setCell_other _ _ _ _ (by simp)).trans h5
  have d1 : V.cell? ⟨b, 1, none⟩ = some (.int .i64 (((p : Nat) : Int) + 1)) := by rw [hV]; exact World.cell?_setCell_same' _ _ _ (by rw [h6]; rfl)
  have hxV : Ext w0 V := hok.ext
  have hbV : b < V.heap.size := hok.lt.2
  have HOK := Lib.hid hok; have HUP := Lib.hid hup
  obtain ⟨a, c, rfl, hc, hb⟩ := h1.ext hxV
  obtain ⟨L, hL⟩ : ∃ L, L = bs.length := ⟨_, rfl⟩
  rw [← hL] at h2 hc hb d0 h5
  have HB := Lib.hid hb
  have HV := Lib.hid hV
  clear hb hL h1 hok hup hxV hc h9 h8
  by_cases hL0 : L = 0
  · have hz : ((L : Int) == 0) = true := by simp [hL0]
    rw [hV] at d0
    go_enter Try.func59, Try.ntmps59
    go_wp2
    rw [← HV.out]
    go_ret
    exact ⟨0, rfl, by omega, HOK.out, HUP.out⟩
  · have hz : ((L : Int) == 0) = false := by simp [hL0]
    obtain ⟨bb, ob, rfl, hbb, hby⟩ : ∃ bb ob, a = some ⟨bb, ob, none⟩ ∧ bb < V.heap.size ∧ ∀ i, i < L → ∃ y : Nat, y ≤ 255 ∧ V.cell? ⟨bb, ob + i, none⟩ = some (.int .u8 y) := by
      rcases HB.out with h | ⟨x, y, h1, h2, h3⟩
      · exact absurd h hL0
      · exact ⟨x, y, h1, h2, h3⟩
    by_cases hpL : p < L
    · obtain ⟨y, hy, cy⟩ := hby p hpL
      have e0 := d0
      have e1 := d1
      rw [hV] at d0 d1 cy
      clear hby hbb hbV e0 e1 hV
      have hmod : Hid (∃ r : Nat, r < n ∧ ((y : Int) % (n : Int)) = r) := ⟨y % n, Nat.mod_lt _ (by omega), by simp⟩
      obtain ⟨r, hr1, hr2⟩ := hmod.out
      go_enter Try.func59, Try.ntmps59
      go_wp2
      rw [← HV.out]
      go_ret
      exact ⟨r, ret_int hr2, hr1, HOK.out, HUP.out⟩
    · obtain ⟨i1, hi1, e1⟩ : ∃ i : Nat, i < L ∧ ((p : Int) % (L : Int)) = (i : Int) := ⟨p % L, Nat.mod_lt _ (by omega), by simp⟩
      obtain ⟨i2, hi2, e2⟩ : ∃ i : Nat, i < L ∧ (((p : Int) * 7 + 3) % (L : Int)) = (i : Int) := ⟨(p * 7 + 3) % L, Nat.mod_lt _ (by omega), by simp⟩
      obtain ⟨q, hq, e3⟩ : ∃ i : Nat, i ≤ p ∧ ((p : Int) / (L : Int)) = (i : Int) := ⟨p / L, Nat.div_le_self _ _, by simp⟩
      obtain ⟨y1, hy1, cy1⟩ := hby i1 hi1
      obtain ⟨y2, hy2, cy2⟩ := hby i2 hi2
      obtain ⟨X, hX⟩ : ∃ X : Nat, X = y1 * 131 + y2 * 1117 + p * 29 + q * 53 := ⟨_, rfl⟩
      have e4 : (y1 : Int) * 131 + (y2 : Int) * 1117 + (p : Int) * 29 + (q : Int) * 53 = (X : Int) := by omega
      have hXs : X ≤ 1000000000 := by omega
      obtain ⟨X6, hX6, e5⟩ : ∃ i : Nat, i ≤ X ∧ ((X : Int) / 64) = (i : Int) := ⟨X / 64, Nat.div_le_self _ _, by simp⟩
      obtain ⟨Z, hZ, e6⟩ : ∃ Z : Nat, Z ≤ 1073741823 ∧ bits .xor .i64 (X : Int) (X6 : Int) = (Z : Int) := ⟨bxor X X6, by have := bxor_lt (x := X) (y := X6) (n := 30) (by omega) (by omega); omega, bits_xor X X6 (by omega) (by omega)⟩
      obtain ⟨r, hr1, hr2⟩ : ∃ r : Nat, r < n ∧ ((Z : Int) % (n : Int)) = r := ⟨Z % n, Nat.mod_lt _ (by omega), by simp⟩
      have k0 := fun u => ((clip_ext V u).cell hbV).trans d0
      have k2 := fun u => ((clip_ext V u).cell hbb).trans cy1
      have k3 := fun u => ((clip_ext V u).cell hbb).trans cy2
      have HXC := Lib.hid fun u => clip_ext V u
      rw [hV] at d0 d1
      clear hby hbb hbV cy1 cy2 hX hV
      go_enter Try.func59, Try.ntmps59
      go_wp2
      rw [← HV.out]
      refine wp_region_ext (by kernel_rfl) (by kernel_rfl) ?_
      repeat (go_big_quiet_step (fail))
      refine wpQuiet_nil ?_
      rintro _ ⟨u, rfl⟩
      go_wp2
      go_ret
      exact ⟨r, ret_int hr2, hr1, HOK.out.next (HXC.out u), HUP.out.trans (Upd.of_ext (HXC.out u))⟩
end Go.Proofs.Ytpmammklklkheaa

/- One number put behind a row of the call's own. The condition: the row has at most 2^20 numbers. -/
namespace Go.Proofs.Ytpmammklklkheaa
open Go.RowKit
open BigFrame

theorem wpList_append_int {ops : Array Oper} {rest : List Oper} {o : Oper} {a : Act} {Q : Exit → Act → World → Prop} {w : World} (hgd : o.guard = none) (s x : Operand)
    (ho : o.op = .call { callee := .builtin .append, args := #[s, x], argTypes := #[23, 23] })
    (base : Nat) (v : Value) (xs : List Int) (hs : a.eval s = v) (hown : Own w base v xs) (g : Nat) (y : Int) (hx : a.eval x = .slice (some ⟨g, 0, none⟩) 1 1)
    (hc : w.cell? ⟨g, 0, none⟩ = some (.int .i64 y)) (hn : xs.length ≤ 1048576) (hb : base ≤ w.heap.size)
    (h : ∀ v' w', Own w' base v' (xs ++ [y]) → w.grownBy w' v.ownBlock → v' ≠ .slice none 0 0 → wpList Try.prog ops Q rest (a.put o.dst v') w') : wpList Try.prog ops Q (o :: rest) a w := by
  obtain ⟨i0, hi, hz0, hz1, hz2⟩ := info_parts info_int
  refine wpList_append_own w hgd s x 23 ho base 3 i0 (.int .i64 0) 1 8 Try.underlying23 hi hz0 hz1 hz2 rfl (by decide) v xs.length _ hs hown ⟨g, 0, none⟩ 1 1 [.int .i64 y] hx rfl ?_ (fun u hu => by simp at hu; subst hu; rfl) (by unfold maxLen; omega) (by omega) hb ?_
  · intro j u hu
    cases j with
    | zero => simp at hu; subst hu; exact hc
    | succ j => simp at hu
  · intro v' w' h1 h2 h3
    refine h v' w' ?_ h2 ?_
    · unfold Own; simpa using h1
    · intro h'
      have := (h3.1 h').2
      omega
/-- The same in a statement that draws its order. -/
theorem step_append_int {ops : Array Oper} {o : Oper} {a : Act} {K : Act → World → Prop} {Q : Exit → Act → World → Prop} {E : Prop} {w : World} (hgd : o.guard = none) (s x : Operand)
    (ho : o.op = .call { callee := .builtin .append, args := #[s, x], argTypes := #[23, 23] })
    (base : Nat) (v : Value) (xs : List Int) (hs : a.eval s = v) (hown : Own w base v xs) (g : Nat) (y : Int) (hx : a.eval x = .slice (some ⟨g, 0, none⟩) 1 1)
    (hc : w.cell? ⟨g, 0, none⟩ = some (.int .i64 y)) (hn : xs.length ≤ 1048576) (hb : base ≤ w.heap.size)
    (h : ∀ v' w', Own w' base v' (xs ++ [y]) → w.grownBy w' v.ownBlock → v' ≠ .slice none 0 0 → K (a.put o.dst v') w') :
    if Region.wanted o (yielded ops a.tmps) = true then Oper.wp Try.prog o a w K Q else E := by
  obtain ⟨i0, hi, hz0, hz1, hz2⟩ := info_parts info_int
  refine step_append_lies w hgd s x 23 ho base 3 i0 (.int .i64 0) 1 8 Try.underlying23 hi hz0 hz1 hz2 rfl (by decide) v xs.length _ hs hown ⟨g, 0, none⟩ 1 1 [.int .i64 y] hx rfl ?_ (fun u hu => by simp at hu; subst hu; rfl) (by omega) (by unfold maxLen; omega) (by omega) hb _ rfl ?_
  · intro j u hu
    cases j with
    | zero => simp at hu; subst hu; exact hc
    | succ j => simp at hu
  · intro g' cap w' h1 h2 _ _
    refine h _ w' ?_ h2 (by simp)
    unfold Own; simpa using h1
theorem Own.lt {w : World} {base : Nat} {v : Value} {xs : List Int} (h : Own w base v xs) : ∀ k, v.ownBlock = some k → base ≤ k ∧ k < w.heap.size := World.ownsRow.lt h
theorem Own.grew {W w w' : World} {base : Nat} {v : Value} {xs : List Int} (h : Own w base v xs) (hx : Ext W w) (hg : w.grownBy w' v.ownBlock) (hb : W.heap.size ≤ base) : Ext W w' :=
  hx.grown hg fun k hk => Nat.le_trans hb (h.lt k hk).1
theorem Own.alloc {w : World} {base : Nat} {v : Value} {xs : List Int} (h : Own w base v xs) (o : Obj) : Own (w.alloc o) base v xs := World.ownsRow.alloc h o
/-- The same, with the word where the row lies afterwards. -/
theorem wpList_append_int2 {ops : Array Oper} {rest : List Oper} {o : Oper} {a : Act} {Q : Exit → Act → World → Prop} {w : World} (hgd : o.guard = none) (s x : Operand)
    (ho : o.op = .call { callee := .builtin .append, args := #[s, x], argTypes := #[23, 23] })
    (base : Nat) (v : Value) (xs : List Int) (hs : a.eval s = v) (hown : Own w base v xs) (g : Nat) (y : Int) (hx : a.eval x = .slice (some ⟨g, 0, none⟩) 1 1)
    (hc : w.cell? ⟨g, 0, none⟩ = some (.int .i64 y)) (hn : xs.length ≤ 1048576) (hb : base ≤ w.heap.size)
    (h : ∀ v' w', Own w' base v' (xs ++ [y]) → w.grownBy w' v.ownBlock → (∀ b, v'.ownBlock = some b → v.ownBlock = some b ∨ w.heap.size ≤ b) → wpList Try.prog ops Q rest (a.put o.dst v') w') : wpList Try.prog ops Q (o :: rest) a w := by
  obtain ⟨i0, hi, hz0, hz1, hz2⟩ := info_parts info_int
  refine wpList_append_lies w hgd s x 23 ho base 3 i0 (.int .i64 0) 1 8 Try.underlying23 hi hz0 hz1 hz2 rfl (by decide) v xs.length _ hs hown ⟨g, 0, none⟩ 1 1 [.int .i64 y] hx rfl ?_ (fun u hu => by simp at hu; subst hu; rfl) (by omega) (by unfold maxLen; omega) (by omega) hb _ rfl ?_
  · intro j u hu
    cases j with
    | zero => simp at hu; subst hu; exact hc
    | succ j => simp at hu
  · intro g' cap w' h1 h2 h3 _
    refine h _ w' ?_ h2 ?_
    · unfold Own; simpa using h1
    · intro b hb
      simp only [Value.ownBlock, Option.some.injEq] at hb
      subst hb
      exact h3.imp id (fun e => by omega)
/-- A row of another block stays. -/
theorem Own.kept {w w' : World} {base : Nat} {v : Value} {xs : List Int} {row : Option Nat} (h : Own w base v xs) (hg : w.grownBy w' row) (hne : v.ownBlock = none ∨ v.ownBlock ≠ row) : Own w' base v xs := World.ownsRow.kept h hg hne
theorem one_cell (w : World) (x : Value) (t : TypeId) : (w.alloc (.cells #[x] t)).cell? ⟨w.heap.size, 0, none⟩ = some x := by
  have h := World.alloc_heap_new w (.cells #[x] t)
  generalize w.alloc (.cells #[x] t) = W at h ⊢
  simp [World.cell?, h]
/-- An empty row that has been laid. -/
theorem Own.lit (w : World) : Own (w.alloc (.cells #[] 3)) w.heap.size (.slice (some ⟨w.heap.size, 0, none⟩) 0 0) [] :=
  World.ownsRow_lit w #[] 0 (Nat.le_refl _) (by unfold maxLen; omega) rfl
end Go.Proofs.Ytpmammklklkheaa

/- The balls of all nodes: the reference and the program compute the same plain list. No condition. -/
namespace Go.Proofs.Ytpmammklklkheaa
open Go.RowKit
open BigFrame

def ballsTo (g : List Int) (k : Nat) : List Int := (List.range k).map fun i => ((ballN g i : Nat) : Int)
theorem ballsTo_succ (g : List Int) (k : Nat) : ballsTo g (k + 1) = ballsTo g k ++ [((ballN g k : Nat) : Int)] := by simp [ballsTo, List.range_succ]
theorem ballsTo_length (g : List Int) (k : Nat) : (ballsTo g k).length = k := by simp [ballsTo]
theorem ballsTo_get (g : List Int) (k i : Nat) (h : i < k) : (ballsTo g k).getD i 0 = ((ballN g i : Nat) : Int) := by simp [ballsTo, h]

set_option maxRecDepth 100000 in
set_option maxHeartbeats 1000000 in
theorem l1Balls_c (v : Value) (g : List Int) (w : World) (hv : Rd w v g) (hg : IsGraph g) :
    Calls Try.prog 81 #[v] w fun e w' => ∃ v', e = .returned v' ∧ Own w' w.heap.size v' (ballsTo g g.length) ∧ Ext w w' := by
  obtain ⟨a, c, rfl⟩ := hv.form
  have HV := Lib.hid hv; clear hv
  have HG := Lib.hid hg
  have hl := hg.le
  clear hg
  go_enter Try.func81, Try.ntmps81
  go_wp2
  go_loopw [3, 4] (fun o i wr => ∃ k : Nat, k ≤ g.length ∧ i = .int .i64 k ∧ Own wr w.heap.size o (ballsTo g k) ∧ Ext w wr) (fun _ i _ => g.length - (intOf i).toNat)
  case atStart => exact ⟨0, Nat.zero_le _, rfl, Own.lit w, (Ext.refl w).alloc _⟩
  case round =>
    obtain ⟨k, hk, rfl, ho, hx⟩ := hrel
    have HO := Lib.hid ho; have HX := Lib.hid hx; clear ho hx
    by_cases hlt : k < g.length
    · obtain ⟨b, o, rfl, -, -, hc⟩ := HV.out.atI hlt
      have c1 := hc _ HX.out
      have c2 := hc _ HX.out.drew
      clear hc
      rw [HG.out.row k hlt] at c1 c2
      have h1 := HG.out.small k
      obtain ⟨p, hp, hp1, hp2, hp3⟩ := pow_var k (by omega)
      have e0 : min k 64 = k := by omega
      have e2 := bits_or (gN g k) p (by omega) (by omega)
      have HB : Hid (ballN g k = bor (gN g k) p) := by unfold ballN; rw [hp]; rfl
      clear hp
      have HQ : Hid (ballsTo g k ++ [bits .or .i64 (gN g k : Int) (IntKind.i64.wrap (p : Int))] = ballsTo g (k + 1)) := by rw [ballsTo_succ, wrap_i64_nat p (by omega), e2, HB.out]; rfl
      go_wp2
      go_region_law (first | (refine step_append_int rfl _ _ rfl w.heap.size _ _ rfl (HO.out.drew.alloc _) wr.heap.size _ rfl (one_cell _ _ _) (by rw [ballsTo_length]; omega) (by simp; have := HX.out.size; omega) ?_; intro v' w3 ho3 hg3 hn3))
      have HX3 : Hid (Ext w w3) := (HO.out.drew.alloc _).grew (HX.out.drew.alloc _) hg3 (Nat.le_refl _)
      have HO3 : Hid (Own w3 w.heap.size v' (ballsTo g (k + 1))) := by rw [← HQ.out]; exact ho3
      clear ho3 hg3 hn3
      simp only [Act.put, Exit.inBlock]
      go_wp2
      go_roundw
      case rel => exact ⟨k + 1, by omega, by go_num, HO3.out, HX3.out⟩
      case measure => simp [intOf]; omega
    · obtain rfl : k = g.length := by omega
      go_wp2
      go_ret
      exact ⟨_, rfl, HO.out, HX.out⟩

set_option maxHeartbeats 1000000 in
theorem balls_c (v : Value) (g : List Int) (w : World) (hv : Rd w v g) (hg : IsGraph g) :
    Calls Try.prog 101 #[v] w fun e w' => ∃ v', e = .returned v' ∧ Own w' w.heap.size v' (ballsTo g g.length) ∧ Ext w w' := by
  obtain ⟨a, c, rfl⟩ := hv.form
  have HV := Lib.hid hv; clear hv
  have HG := Lib.hid hg
  have hl := hg.le
  clear hg
  go_enter Try.func101, Try.ntmps101
  go_wp2
  go_loopw [3, 7] (fun o i wr => ∃ k : Nat, k ≤ g.length ∧ i = .int .i64 k ∧ Own wr w.heap.size o (ballsTo g k) ∧ Ext w wr) (fun _ i _ => g.length - (intOf i).toNat)
  case atStart => exact ⟨0, Nat.zero_le _, rfl, Own.nil _ _, Ext.refl w⟩
  case round =>
    obtain ⟨k, hk, rfl, ho, hx⟩ := hrel
    have HO := Lib.hid ho; have HX := Lib.hid hx; clear ho hx
    by_cases hlt : k < g.length
    · go_wp2_with fail
      refine (ball_c _ g k _ (HV.out.ext HX.out) HG.out hlt).mono ?_
      rintro e w2 ⟨rfl, x2⟩
      have O2 := Lib.hid (HO.out.ext x2); have X2 := Lib.hid (HX.out.trans x2); clear x2
      go_wp2_with (at_builtin; refine wpList_append_int rfl _ _ rfl w.heap.size _ _ rfl (O2.out.alloc _) w2.heap.size _ rfl (one_cell _ _ _) (by rw [ballsTo_length]; omega) (by simp; have := X2.out.size; omega) ?_; intro v' w3 ho3 hg3 hn3)
      have HX3 : Hid (Ext w w3) := (O2.out.alloc _).grew (X2.out.alloc _) hg3 (Nat.le_refl _)
      have HO3 : Hid (Own w3 w.heap.size v' (ballsTo g (k + 1))) := by rw [ballsTo_succ]; exact ho3
      clear ho3 hg3 hn3
      go_wp2
      go_roundw
      case rel => exact ⟨k + 1, by omega, by go_num, HO3.out, HX3.out⟩
      case measure => simp [intOf]; omega
    · obtain rfl : k = g.length := by omega
      go_wp2
      go_ret
      exact ⟨_, rfl, HO.out, HX.out⟩
end Go.Proofs.Ytpmammklklkheaa

/- The pool with a test for each binary digit: the reference and the program compute the same plain list. No condition. -/
namespace Go.Proofs.Ytpmammklklkheaa
open Go.RowKit
open BigFrame

/-- The items below j whose digit of weight p is 1. -/
def digitTo (p : Nat) : Nat → Nat
  | 0 => 0
  | j + 1 => if j / p % 2 = 1 then bor (digitTo p j) (2 ^ j) else digitTo p j
theorem digitTo_lt (p : Nat) : ∀ j, digitTo p j < 2 ^ j
  | 0 => by simp [digitTo]
  | j + 1 => by
    have h := digitTo_lt p j
    unfold digitTo
    split
    · exact bor_lt (Nat.lt_of_lt_of_le h (Nat.pow_le_pow_right (by omega) (by omega))) (Nat.pow_lt_pow_right (by omega) (by omega))
    · exact Nat.lt_of_lt_of_le h (Nat.pow_le_pow_right (by omega) (by omega))
theorem digitTo_small {p j : Nat} (h : j ≤ 12) : digitTo p j ≤ 4095 := by
  have := digitTo_lt p j
  have := pow_le_12 h
  omega
def digitsTo (n k : Nat) : List Int := (List.range k).map fun i => ((digitTo (2 ^ i) n : Nat) : Int)
theorem digitsTo_succ (n k : Nat) : digitsTo n (k + 1) = digitsTo n k ++ [((digitTo (2 ^ k) n : Nat) : Int)] := by simp [digitsTo, List.range_succ]
theorem digitsTo_length (n k : Nat) : (digitsTo n k).length = k := by simp [digitsTo]
def digitsN (n : Nat) : List Int := digitsTo n ((List.range 5).countP fun k => decide (2 ^ k ≤ n - 1))
def digits (a : Int) : List Int × Bool := if inB 1 a 12 then (digitsN a.toNat, true) else ([], false)
theorem digits_end : ∀ n, n ≤ 12 → ∀ k, k ≤ 4 → (k = 0 ∨ 2 ^ (k - 1) ≤ n - 1) → n - 1 < 2 ^ k → (List.range 5).countP (fun k => decide (2 ^ k ≤ n - 1)) = k := by decide
theorem shr_pos : ∀ n, n ≤ 12 → ∀ k, k ≤ 4 → ((0 < shr (n - 1) k) ↔ 2 ^ k ≤ n - 1) := by decide
theorem bit_div (i k : Nat) : i.testBit k = decide (i / 2 ^ k % 2 = 1) := Nat.testBit_eq_decide_div_mod_eq

/-- What a function that returns a list and whether it holds returns. -/
def listV (v : Value) (b : Bool) : Value := .tuple #[v, .bool b]

theorem quo_cases (j p : Nat) : ∃ d, d ≤ j ∧ ((j : Int) / (p : Int)) = (d : Int) ∧ (((d : Int) % 2 == 1) = decide (j / p % 2 = 1)) := by
  refine ⟨j / p, Nat.div_le_self _ _, by simp, ?_⟩
  rw [show ((j / p : Nat) : Int) % 2 = ((j / p % 2 : Nat) : Int) from rfl]
  by_cases h : j / p % 2 = 1
  · rw [h]; rfl
  · have h0 : j / p % 2 = 0 := by omega
    rw [h0]; rfl

end Go.Proofs.Ytpmammklklkheaa

/- A statement that draws its order, walked as in a plain frame, holds in a round too. The condition: none of its operations defers, and the way on lets nothing out. -/
namespace Go.Proofs.Ytpmammklklkheaa
open Go.RowKit
variable {P : Program} {ops : Array Oper} {md : Region.Mode}

theorem wpIn_of_wp {ro : Option Nat} {n : Nat} {o : Oper} {a : Act} {K K' : Act → World → Prop} {Q : Exit → Act → World → Prop} {w : World} (hd : ∀ c, o.op ≠ .defer c)
    (h : ∀ a w, K a w → K' a w) (hh : o.wp P a w K Q) : o.wpIn (FW ro) n P a w K' Q := by
  unfold Oper.wp at hh
  unfold Oper.wpIn
  refine ⟨fun _ _ => trivial, ?_⟩
  rw [semAt_FW _ _ hd]
  generalize (execOp a.eval o).run P w = r at *
  cases r with
  | ok x w' =>
    cases x with
    | value v => exact h _ _ hh
    | skip => exact h _ _ hh
    | defer d => exact h _ _ hh
    | enter f args =>
      refine ⟨fun hs => by simp at hs, callsFW (Calls.mono hh fun e w'' he => ?_)⟩
      cases e with
      | returned v => exact h _ _ he
      | panicked c => exact he
      | outgrown => exact he
    | row row args =>
      refine ⟨fun hs => by simp at hs, ?_⟩
      exact fun c cs _ => let ⟨v, w'', r, s⟩ := hh c cs; ⟨v, w'', h _ _ r, stepsIn_wide.2 s⟩
    | _ => exact hh.elim
  | halt x w' =>
    cases x <;> exact hh

theorem wpOpIn_of_wpOp {ro : Option Nat} {n i : Nat} {a : Act} {K K' : Act → World → Prop} {Q : Exit → Act → World → Prop} {w : World} (hd : noDefer ops = true) (hL : ¬ LetsOut Q)
    (h : ∀ a w, K a w → K' a w) (hh : wpOp P ops Q i K a w) : wpOpIn (FW ro) n P ops Q i K' a w := by
  unfold wpOp at hh
  unfold wpOpIn
  split
  · rename_i ho; simp only [ho] at hh; exact h _ _ hh
  · rename_i o ho
    simp only [ho] at hh
    split
    · rename_i hw
      rw [if_pos hw] at hh
      rcases hh with hh | ⟨_, hl⟩
      · exact wpIn_of_wp (noDefer_spec hd i o ho) h hh
      · exact absurd hl hL
    · rename_i hw
      rw [if_neg hw] at hh
      exact ⟨fun _ _ => trivial, h _ _ hh⟩

theorem wpAnyIn_of_wpAny {ro : Option Nat} {n : Nat} {Q : Exit → Act → World → Prop} (hd : noDefer ops = true) (hL : ¬ LetsOut Q) : ∀ (fuel : Nat) (listed : Array Bool) (a : Act) (w : World),
    wpAny P md ops Q fuel listed a w → wpAnyIn (FW ro) n P md ops Q fuel listed a w
  | 0, _, _, _, h => h
  | fuel + 1, _, _, _, h => ⟨h.1, fun i hi => wpOpIn_of_wpOp hd hL (fun a w => wpAnyIn_of_wpAny hd hL fuel _ a w) (h.2 i hi)⟩

/-- THE LAW: at a region that draws, in a round: walk it by 'wpAny', as in a plain frame. -/
theorem wpIn_region_plain {ro : Option Nat} {n id : Nat} {Q : Exit → Act → World → Prop} {a : Act} {w : World} (hm : P.follows .mixedOrders = true) (hd : noDefer ops = true) (hL : ¬ LetsOut Q)
    (h : wpAny P .any ops Q ops.size (Array.replicate ops.size false) a w.drew) : (Code.region id ops true).wpIn (FW ro) n P Q a w :=
  wpIn_region_any hm (wpAnyIn_of_wpAny hd hL _ _ _ _ h)
end Go.Proofs.Ytpmammklklkheaa

/- Variables of the call's own beside loops over functions; a way out with a list. No condition. -/
namespace Go.Proofs.Ytpmammklklkheaa
open Go.RowKit
open BigFrame
attribute [local go_sem] Oper.semAt_some

theorem Var.book {B : Nat} {w w' : World} {b : Nat} {v : Value} (h : Var w b v) (hB : Book B w w') (hb : b < B) : Var w' b v := by
  obtain ⟨o, ho⟩ : ∃ o, w.heap[b]? = some o := ⟨_, Array.getElem?_eq_getElem h.lt⟩
  have ho' := hB.block _ _ ho (.inl hb)
  refine ⟨?_, ?_, Nat.lt_of_lt_of_le h.lt hB.size⟩
  · rw [← h.cell]; unfold World.cell?; simp only [ho, ho']
  · rw [← h.frozen]; unfold World.frozen?; simp only [ho, ho']
theorem Var.grown {w w' : World} {b : Nat} {v : Value} {row : Option Nat} (h : Var w b v) (hg : w.grownBy w' row) (hne : some b ≠ row) : Var w' b v := by
  have e := hg.block b h.lt hne
  refine ⟨?_, ?_, Nat.lt_of_lt_of_le h.lt hg.size⟩
  · rw [← h.cell]; unfold World.cell?; simp only [e]
  · rw [← h.frozen]; unfold World.frozen?; simp only [e]
theorem leave_list {fn : Func} {p q : Tmp} {v : Value} {b : Bool} {xs : List Int} {r : List Int × Bool} {w W : World} {tmps : Array Value} {ds : List Deferred} (hr : fn.results = #[.tmp p, .tmp q])
    (hp : tmps.getD p undef = v) (hq : tmps.getD q undef = .bool b) (hm : Marks w.heap.size W ds) (ho : Own W w.heap.size v xs) (hx : Ext w W) (hxy : (xs, b) = r) :
    LeavesInM Fence.wide 0 Try.prog fn tmps (fun e w' => ∃ v, e = .returned (listV v r.2) ∧ Own w' w.heap.size v r.1 ∧ Ext w w') ds .returning W := by
  subst hxy
  refine leaves_marks (B := w.heap.size) (listV v b) _ _ hm fun W' hW' => ⟨?_, v, rfl, ho.book hW', hx.book (Nat.le_refl _) hW'⟩
  rw [results_tmp2 hr, hp, hq]
  rfl

end Go.Proofs.Ytpmammklklkheaa
