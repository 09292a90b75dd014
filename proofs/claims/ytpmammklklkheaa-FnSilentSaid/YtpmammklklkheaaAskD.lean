/- The asker's depths: each set's depth is found, whatever the map of depths already holds. The condition: a graph of at most 12 nodes. -/
import Derived.Test.YtpmammklklkheaaAsker
import Derived.Test.YtpmammklklkheaaDep
namespace Go.Proofs.Ytpmammklklkheaa
open Go.RowKit
open BigFrame

/-- w' is w but for new blocks, and for what lies at block b. -/
structure Upd (b : Nat) (w w' : World) : Prop where
  os : w'.os = w.os
  tape : w'.tape = w.tape
  output : w'.output = w.output
  size : w.heap.size ≤ w'.heap.size
  block : ∀ i, i < w.heap.size → i ≠ b → w'.heap[i]? = w.heap[i]?
theorem Upd.refl (b : Nat) (w : World) : Upd b w w := ⟨rfl, rfl, rfl, Nat.le_refl _, fun _ _ _ => rfl⟩
theorem Upd.trans {b : Nat} {x y z : World} (h : Upd b x y) (k : Upd b y z) : Upd b x z :=
  ⟨k.os.trans h.os, k.tape.trans h.tape, k.output.trans h.output, Nat.le_trans h.size k.size, fun i hi hne => (k.block i (Nat.lt_of_lt_of_le hi h.size) hne).trans (h.block i hi hne)⟩
theorem Upd.of_ext {b : Nat} {w w' : World} (h : Ext w w') : Upd b w w' := ⟨h.os, h.tape, h.output, h.size, fun _ hi _ => h.block hi⟩
theorem Ext.upd {b : Nat} {w0 w w' : World} (h : Ext w0 w) (hb : w0.heap.size ≤ b) (k : Upd b w w') : Ext w0 w' :=
  ⟨k.os.trans h.os, k.tape.trans h.tape, k.output.trans h.output, Nat.le_trans h.size k.size, fun i hi => (k.block i (Nat.lt_of_lt_of_le hi h.size) (by omega)).trans (h.block hi)⟩
theorem Upd.cell {b : Nat} {w w' : World} (h : Upd b w w') {x o : Nat} (hx : x < w.heap.size) (hne : x ≠ b) : w'.cell? ⟨x, o, none⟩ = w.cell? ⟨x, o, none⟩ :=
  World.cell?_of_block (a := ⟨x, o, none⟩) (h.block x hx hne)
theorem Upd.frozen {b : Nat} {w w' : World} (h : Upd b w w') {x o : Nat} (hx : x < w.heap.size) (hne : x ≠ b) : w'.frozen? ⟨x, o, none⟩ = w.frozen? ⟨x, o, none⟩ :=
  World.frozen?_of_block (a := ⟨x, o, none⟩) (h.block x hx hne)

theorem Own.upd {w w' : World} {b base : Nat} {v : Value} {xs : List Int} (h : Own w base v xs) (hb : b < base) (hu : Upd b w w') : Own w' base v xs := by
  obtain ⟨h1, h2⟩ := h
  refine ⟨h1, ?_⟩
  rcases h2 with h2 | ⟨g, cap, cur, hv, hg, hh, r⟩
  · exact Or.inl h2
  · exact Or.inr ⟨g, cap, cur, hv, hg, (hu.block g (Array.getElem?_eq_some_iff.1 hh).1 (by omega)).trans hh, r⟩
/-- The map at block b holds nothing but depths. -/
def Known (w : World) (b : Nat) (g : List Int) : Prop := ∃ f, IntMap w b f ∧ ∀ k v, f k = some v → ∃ s : Nat, k = (s : Int) ∧ v = .int .i64 ((never (dep g s) : Nat) : Int)
/-- The asker at block b + 1, made behind the world w0. -/
structure AskOk (w0 : World) (b : Nat) (v : Value) (g : List Int) (w : World) : Prop where
  map : Known w b g
  graph : w.cell? ⟨b + 1, 0, none⟩ = some v
  known : w.cell? ⟨b + 1, 1, none⟩ = some (.map (some b))
  size : b + 1 < w.heap.size
  ext : Ext w0 w
theorem AskOk.next {w0 w w' : World} {b : Nat} {v : Value} {g : List Int} (h : AskOk w0 b v g w) (hx : Ext w w') : AskOk w0 b v g w' :=
  ⟨h.map.imp fun _ hf => ⟨hf.1.ext hx, hf.2⟩, (hx.cell h.size).trans h.graph, (hx.cell h.size).trans h.known, Nat.lt_of_lt_of_le h.size hx.size, h.ext.trans hx⟩
theorem AskOk.is {w0 w : World} {b : Nat} {v : Value} {g : List Int} (h : AskOk w0 b v g w) : ∃ f, IsAsker w b v f :=
  h.map.imp fun _ hf => ⟨hf.1, h.graph, h.known, h.size⟩
theorem AskOk.of {w0 w : World} {b : Nat} {v : Value} {g : List Int} (h : IsAsker w b v (fun _ => none)) (hx : Ext w0 w) : AskOk w0 b v g w :=
  ⟨⟨_, h.map, fun _ _ h => by cases h⟩, h.graph, h.known, h.size, hx⟩

section
variable {w0 : World} {b : Nat} {v : Value} {g : List Int}
set_option maxHeartbeats 1000000 in
theorem after_of (hv : Rd w0 v g) (hg : IsGraph g) (hb : w0.heap.size ≤ b) (s x : Nat) (hs : s ≤ 4095) (hx : x < g.length)
    (ih : ∀ t w, t < s → t ≠ 0 → AskOk w0 b v g w → Calls Try.prog 54 #[.pointer (some ⟨b + 1, 0, none⟩), .int .i64 t] w fun e w' => e = .returned (.int .i64 (never (dep g t) : Nat)) ∧ AskOk w0 b v g w' ∧ Upd b w w')
    (w : World) (ha : AskOk w0 b v g w) :
    Calls Try.prog 93 #[.pointer (some ⟨b + 1, 0, none⟩), .int .i64 s, .int .i64 x] w fun e w' => e = .returned (.int .i64 (aft g s x : Nat)) ∧ AskOk w0 b v g w' ∧ Upd b w w' := by
  obtain ⟨f, hA⟩ := ha.is
  obtain ⟨I, hI⟩ : ∃ I, I = qIn g s x := ⟨_, rfl⟩
  obtain ⟨O, hO⟩ : ∃ O, O = without s (qIn g s x) := ⟨_, rfl⟩
  have HC : Hid (Calls Try.prog 117 #[.pointer (some ⟨b + 1, 0, none⟩), .int .i64 s, .int .i64 x] w fun e w' => e = .returned (.tuple #[.int .i64 (I : Nat), .int .i64 (O : Nat)]) ∧ Ext w w') := by
    rw [hI, hO]; exact split_c b v f g s x w hA (hv.ext ha.ext) hg hs hx
  have HA := Lib.hid ha; have HI := Lib.hid hI; have HO := Lib.hid hO; have HIH := Lib.hid ih
  clear ha hA hI hO ih
  by_cases h1 : I = 0
  · have hI0 : ((I : Int) == 0) = true := by simp [h1]
    go_enter Try.func93, Try.ntmps93
    go_wp2_with (go_at_call 117; refine HC.out.mono ?_; rintro e w1 ⟨rfl, x1⟩)
    go_ret
    exact ⟨ret_int (by unfold aft tells; rw [← HI.out]; simp [h1]), HA.out.next (by assumption), Upd.of_ext (by assumption)⟩
  · have hI0 : ((I : Int) == 0) = false := by simp [h1]
    by_cases h2 : O = 0
    · have hO0 : ((O : Int) == 0) = true := by simp [h2]
      go_enter Try.func93, Try.ntmps93
      go_wp2_with (go_at_call 117; refine HC.out.mono ?_; rintro e w1 ⟨rfl, x1⟩)
      go_ret
      exact ⟨ret_int (by unfold aft tells; rw [qOut_zero.1 (HO.out.symm.trans h2)]; simp), HA.out.next (by assumption), Upd.of_ext (by assumption)⟩
    · have hO0 : ((O : Int) == 0) = false := by simp [h2]
      have hT : Hid (tells g s x = true) := tells_iff.2 ⟨by rw [← HI.out]; exact h1, fun e => h2 (HO.out.trans (qOut_zero.2 e))⟩
      have hT' := tells_iff.1 hT.out
      have l1 : I < s := by rw [HI.out]; exact qIn_lt hT'.2
      have l2 : O < s := by rw [HO.out]; exact qOut_lt hT'.1
      go_enter Try.func93, Try.ntmps93
      go_wp2_with fail
      refine HC.out.mono ?_
      rintro e w1 ⟨rfl, x1⟩
      have A1 := Lib.hid (HA.out.next x1); have U1 := Lib.hid (Upd.of_ext (b := b) x1); clear x1
      go_wp2_with fail
      refine (HIH.out I _ l1 h1 A1.out).mono ?_
      rintro e w2 ⟨rfl, a2, u2⟩
      have A2 := Lib.hid a2; have U2 := Lib.hid (U1.out.trans u2); clear a2 u2
      go_wp2_with fail
      refine (HIH.out O _ l2 h2 A2.out).mono ?_
      rintro e w3 ⟨rfl, a3, u3⟩
      have HR : Hid (aft g s x = max (never (dep g I)) (never (dep g O))) := by
        unfold Hid aft
        rw [hT.out, if_pos rfl, ← HO.out, ← HI.out]
      go_wp2
      all_goals
        go_ret
        exact ⟨ret_int (by rw [HR.out]; omega), a3, U2.out.trans u3⟩

set_option maxRecDepth 100000 in
set_option maxHeartbeats 2000000 in
theorem depth_of (hv : Rd w0 v g) (hg : IsGraph g) (hb : w0.heap.size ≤ b) : ∀ (n s : Nat) (w : World), s ≤ n → s ≤ 4095 → s ≠ 0 → AskOk w0 b v g w →
    Calls Try.prog 54 #[.pointer (some ⟨b + 1, 0, none⟩), .int .i64 s] w fun e w' => e = .returned (.int .i64 (never (dep g s) : Nat)) ∧ AskOk w0 b v g w' ∧ Upd b w w' := by
  intro n
  induction n with
  | zero => intro s w h _ h0; omega
  | succ n ih =>
    intro s w hn hs h0 ha
    have hl := hg.le
    obtain ⟨a, c, rfl⟩ := hv.form
    have HA := Lib.hid ha
    have HS := Lib.hid (sizeC s hs)
    have HAF := Lib.hid fun x (hx : x < g.length) => after_of hv hg hb s x hs hx (fun t w ht h0 ha => ih t w (by omega) (by omega) h0 ha)
    have HD : Hid (dep g s = 0 ↔ cnt s = 1) := dep_pos hs h0
    have HM : Hid (band s (s - 1) = 0 ↔ cnt s ≤ 1) := one_iff hs
    have HG := Lib.hid hg
    have hz := mt (cnt_zero hs).1 h0
    clear ih hg
    by_cases h1 : cnt s = 1
    · have hc1 : ((cnt s : Int) == 1) = true := by simp [h1]
      go_enter Try.func54, Try.ntmps54
      go_wp2_with (go_at_call 57; refine (HS.out _).mono ?_; rintro e w' ⟨rfl, rfl⟩)
      go_ret
      exact ⟨ret_int (by rw [HD.out.2 h1]; rfl), HA.out, Upd.refl _ _⟩
    · have hc1 : ((cnt s : Int) == 1) = false := by simp; omega
      obtain ⟨f, hm, hf⟩ := ha.map
      have HL := Lib.hid (hm.lookup2 Try.underlying74 (show (zeroValue 3).run Try.prog w = .ok (.int .i64 0) w from rfl) s)
      have HMP := Lib.hid hm
      have c0 := ha.graph
      have c1 := ha.known
      cases hfs : f s with
      | some u =>
        obtain ⟨s', hs', hu⟩ := hf _ _ hfs
        have hs'' : s' = s := by omega
        subst hs'' hu
        have hlk := HL.out
        rw [hfs] at hlk
        simp only [Option.getD_some, Option.isSome_some] at hlk
        clear ha hm hf hfs
        go_enter Try.func54, Try.ntmps54
        go_wp2_with (go_at_call 57; refine (HS.out _).mono ?_; rintro e w' ⟨rfl, rfl⟩)
        go_ret
        exact ⟨rfl, HA.out, Upd.refl _ _⟩
      | none =>
        have hlk := HL.out
        rw [hfs] at hlk
        simp only [Option.getD_none, Option.isSome_none] at hlk
        clear ha hm hf hfs
        have HMO : Hid (dep g s = depTo g s g.length) := dep_more (mt HM.out.1 (by omega))
        go_enter Try.func54, Try.ntmps54
        go_wp2_with (go_at_call 57; refine (HS.out _).mono ?_; rintro e w' ⟨rfl, rfl⟩)
        clear hlk c0 c1
        go_loopw [7, 29] (fun d i wr => ∃ k D : Nat, k ≤ g.length ∧ i = .int .i64 k ∧ d = .int .i64 D ∧ Hid (D = never (depTo g s k)) ∧ Hid (D ≤ 1048576) ∧ Hid (AskOk w0 b (.slice a g.length c) g wr) ∧ Hid (Upd b w wr)) (fun _ i _ => g.length - (intOf i).toNat)
        case atStart => exact ⟨0, 1048576, Nat.zero_le _, rfl, rfl, rfl, Nat.le_refl _, HA.out, Upd.refl _ _⟩
        case round =>
          obtain ⟨k, D, hk, rfl, rfl, HDD, HD1, HAR, HU⟩ := hrel
          by_cases hlt : k < g.length
          · have HK := Lib.hid (HAF.out k hlt wr HAR.out)
            by_cases ha : aft g s k < 1048576
            · have HN := Lib.hid (never_min (x := k) hs ha)
              have hA11 := (aft_some hs ha).2
              obtain ⟨A, hA⟩ : ∃ A, A = aft g s k := ⟨_, rfl⟩
              rw [← hA] at ha HN HK hA11
              have hAt : decide ((A : Int) < 1048576) = true := by simp; omega
              clear hA ha
              go_wp2_with fail
              refine HK.out.mono ?_
              rintro e w1 ⟨rfl, a1, u1⟩
              have A1 := Lib.hid a1; have U1 := Lib.hid (HU.out.trans u1); clear a1 u1
              go_wp2
              all_goals
                go_roundw
                case rel => exact ⟨k + 1, min D (A + 1), by omega, by go_num, congrArg (Value.int .i64) (by omega), (congrArg (fun z => min z (A + 1)) HDD.out).trans HN.out.symm, by have := HD1.out; unfold Hid; omega, A1.out, U1.out⟩
                case measure => simp [intOf]; omega
            · have HN := Lib.hid (never_keep (x := k) hs ha)
              obtain ⟨A, hA⟩ : ∃ A, A = aft g s k := ⟨_, rfl⟩
              rw [← hA] at ha HK
              have hAt : decide ((A : Int) < 1048576) = false := by simp; omega
              clear hA ha
              go_wp2_with fail
              refine HK.out.mono ?_
              rintro e w1 ⟨rfl, a1, u1⟩
              have A1 := Lib.hid a1; have U1 := Lib.hid (HU.out.trans u1); clear a1 u1
              go_wp2
              go_roundw
              case rel => exact ⟨k + 1, D, by omega, by go_num, rfl, HDD.out.trans HN.out.symm, HD1, A1.out, U1.out⟩
              case measure => simp [intOf]; omega
          · obtain rfl : k = g.length := by omega
            have ho := HAR.out
            obtain ⟨f2, hm2, hf2⟩ := ho.map
            have c0 := ho.known
            have hsz := ho.size
            obtain ⟨W, hu, m4, hx4, hs4, ho4⟩ := hm2.update Try.underlying74 s (.int .i64 D)
            have HO := Lib.hid ho; have M4 := Lib.hid m4; have HX4 := Lib.hid hx4; have HS4 := Lib.hid hs4; have HO4 := Lib.hid ho4; have HF2 := Lib.hid hf2
            clear ho hm2 m4 hx4 hs4 ho4 hf2
            go_wp2
            go_ret
            have UW : Upd b wr W := by
              have hx := HX4.out w0 HO.out.ext hb
              have hy := HO.out.ext
              exact ⟨hx.os.trans hy.os.symm, hx.tape.trans hy.tape.symm, hx.output.trans hy.output.symm, by rw [HS4.out]; exact Nat.le_refl _, fun i _ hne => HO4.out i hne⟩
            refine ⟨ret_int (by rw [HMO.out, ← HDD.out]), ⟨⟨_, M4.out, fun k' u' h => ?_⟩, (UW.cell hsz (by omega)).trans HO.out.graph, (UW.cell hsz (by omega)).trans HO.out.known, by rw [HS4.out]; exact hsz, HO.out.ext.upd hb UW⟩, HU.out.trans UW⟩
            unfold put at h
            split at h
            · rename_i e
              cases h
              exact ⟨s, e, by rw [HMO.out, ← HDD.out]⟩
            · exact HF2.out _ _ h
end
end Go.Proofs.Ytpmammklklkheaa
