/- What the walks of this seat rest on, one part: plain facts, and contracts of the functions that they reach. Each states its own condition. -/
import Derived.Test.YtkmfmhckpfomeaaGreatDoorB1
import Derived.Test.YtkmfmhckpfomeaaGreatDoorB3
set_option linter.all false
set_option linter.unusedSimpArgs false
set_option linter.unusedVariables false
/- A range over a function whose iterator hands over, one after the other, the numbers k below N for which p holds: the loop's law, and the way out of a function that holds such loops. No condition. -/
namespace Go.Proofs.YtkmfmhckpfomeaaGreatDoor
open Go.RowKit

variable {P : Program}

/-- W' is W but for new blocks, and for what is no cells and lies at or beyond B: the books of loops. -/
structure Book (B : Nat) (W W' : World) : Prop where
  os : W'.os = W.os
  tape : W'.tape = W.tape
  output : W'.output = W.output
  size : W.heap.size ≤ W'.heap.size
  block : ∀ k o, W.heap[k]? = some o → (k < B ∨ o.isCells = true) → W'.heap[k]? = some o
theorem Book.refl (B : Nat) (W : World) : Book B W W := ⟨rfl, rfl, rfl, Nat.le_refl _, fun _ _ h _ => h⟩
theorem Book.trans {B : Nat} {X Y Z : World} (h : Book B X Y) (k : Book B Y Z) : Book B X Z :=
  ⟨k.os.trans h.os, k.tape.trans h.tape, k.output.trans h.output, Nat.le_trans h.size k.size, fun i o hi ho => k.block i o (h.block i o hi ho) ho⟩
theorem Book.alloc (B : Nat) (W : World) (o : Obj) : Book B W (W.alloc o) :=
  ⟨rfl, rfl, rfl, by simp, fun k _ hk _ => (Below.heap_alloc W o k (Array.getElem?_eq_some_iff.1 hk).1).trans hk⟩
theorem Book.putObj {B : Nat} {W : World} {l : Nat} {o : Obj} (o' : Obj) (hB : B ≤ l) (hl : W.heap[l]? = some o) (ho : o.isCells = false) : Book B W (W.putObj l o') :=
  ⟨rfl, rfl, rfl, by simp, fun k u hk hu => (World.putObj_heap_other (fun e => by
    subst e
    rw [hl] at hk
    obtain rfl := Option.some.inj hk
    rcases hu with hu | hu
    · omega
    · rw [ho] at hu; cases hu)).trans hk⟩
theorem Book.of_ext {B : Nat} {W W' : World} (h : Ext W W') : Book B W W' :=
  ⟨h.os, h.tape, h.output, h.size, fun _ _ hk _ => (Ext.block h (Array.getElem?_eq_some_iff.1 hk).1).trans hk⟩
theorem Book.mono {B B' : Nat} {W W' : World} (h : Book B W W') (hB : B' ≤ B) : Book B' W W' :=
  ⟨h.os, h.tape, h.output, h.size, fun k o hk ho => h.block k o hk (ho.imp (fun h => Nat.lt_of_lt_of_le h hB) id)⟩
theorem Ext.book {B : Nat} {w W W' : World} (h : Ext w W) (hB : w.heap.size ≤ B) (hk : Book B W W') : Ext w W' :=
  ⟨hk.os.trans h.os, hk.tape.trans h.tape, hk.output.trans h.output, Nat.le_trans h.size hk.size, fun i hi => by
    rw [← Below.block h i hi]
    have hi' : i < W.heap.size := Nat.lt_of_lt_of_le hi h.size
    exact (hk.block i _ (Array.getElem?_eq_getElem hi') (.inl (Nat.lt_of_lt_of_le hi hB))).trans (Array.getElem?_eq_getElem hi').symm⟩
theorem Below.book {B b : Nat} {w W W' : World} (h : Below b w W) (hb : b ≤ w.heap.size) (hB : b ≤ B) (hk : Book B W W') : Below b w W' :=
  ⟨hk.os.trans h.os, hk.tape.trans h.tape, hk.output.trans h.output, Nat.le_trans h.size hk.size, fun i hi => by
    rw [← Below.block h i hi]
    have hi' : i < W.heap.size := Nat.lt_of_lt_of_le (Nat.lt_of_lt_of_le hi hb) h.size
    exact (hk.block i _ (Array.getElem?_eq_getElem hi') (.inl (Nat.lt_of_lt_of_le hi hB))).trans (Array.getElem?_eq_getElem hi').symm⟩
theorem Book.cell {B : Nat} {W W' : World} (h : Book B W W') {a : Addr} {v : Value} (hv : W.cell? a = some v) : W'.cell? a = some v := by
  obtain ⟨o, ho, hc⟩ := cells_of_cell hv
  have := h.block a.block o ho (.inr hc)
  exact (World.cell?_of_block (this.trans ho.symm)).trans hv
theorem Book.frozen {B : Nat} {W W' : World} (h : Book B W W') {a : Addr} {v : Value} (hv : W.cell? a = some v) (hf : W.frozen? a = false) : W'.frozen? a = false := by
  obtain ⟨o, ho, hc⟩ := cells_of_cell hv
  have := h.block a.block o ho (.inr hc)
  exact (World.frozen?_of_block (this.trans ho.symm)).trans hf
theorem Rd.book {B : Nat} {W W' : World} (h : Book B W W') {v : Value} {xs : List Int} (hv : Rd W v xs) : Rd W' v xs := by
  obtain ⟨a, c, rfl, hv⟩ := hv
  refine ⟨a, c, rfl, hv.imp id ?_⟩
  rintro ⟨b, o, rfl, hb, hc, hv⟩
  exact ⟨b, o, rfl, Nat.lt_of_lt_of_le hb h.size, hc, fun i hi => h.cell (hv i hi)⟩
theorem Own.book {B : Nat} {W W' : World} (h : Book B W W') {base : Nat} {v : Value} {xs : List Int} (hv : Own W base v xs) : Own W' base v xs := by
  obtain ⟨h1, h2⟩ := hv
  refine ⟨h1, ?_⟩
  rcases h2 with h2 | ⟨g, cap, cur, hv, hg, hh, r⟩
  · exact Or.inl h2
  · exact Or.inr ⟨g, cap, cur, hv, hg, h.block g _ hh (.inr rfl), r⟩

/-- The marks that loops have left among the activation's deferred calls: each names a block that holds none. -/
def Marks (B : Nat) (W : World) (ds : List Deferred) : Prop :=
  ∃ Ds : List Nat, ds = Ds.map (fun D => { target := .collected D, args := #[] }) ∧ Ds.Nodup ∧ ∀ D ∈ Ds, B ≤ D ∧ W.heap[D]? = some (.deferred (some []))
theorem Marks.nil (B : Nat) (W : World) : Marks B W [] := ⟨[], rfl, List.nodup_nil, fun _ h => by cases h⟩
theorem Marks.cons {B : Nat} {W : World} {ds : List Deferred} {D n : Nat} (h : Marks B W ds) (hlt : ∀ k, (∃ d ∈ ds, d.target = .collected k) → k < n) (hn : n ≤ D) (hB : B ≤ D) (hD : W.heap[D]? = some (.deferred (some []))) :
    Marks B W ({ target := .collected D, args := #[] } :: ds) := by
  obtain ⟨Ds, rfl, hnd, hall⟩ := h
  refine ⟨D :: Ds, rfl, List.nodup_cons.2 ⟨fun hm => ?_, hnd⟩, fun k hk => ?_⟩
  · have := hlt D ⟨_, List.mem_map.2 ⟨D, hm, rfl⟩, rfl⟩
    omega
  · rcases List.mem_cons.1 hk with rfl | hk
    · exact ⟨hB, hD⟩
    · exact hall k hk
theorem Marks.lt {B : Nat} {W : World} {ds : List Deferred} (h : Marks B W ds) : ∀ k, (∃ d ∈ ds, d.target = .collected k) → k < W.heap.size := by
  obtain ⟨Ds, rfl, hnd, hall⟩ := h
  rintro k ⟨d, hd, e⟩
  obtain ⟨D, hD, rfl⟩ := List.mem_map.1 hd
  simp only [Target.collected.injEq] at e
  subst e
  exact (Array.getElem?_eq_some_iff.1 (hall _ hD).2).1
theorem Marks.keep {B : Nat} {W W' : World} {ds : List Deferred} (h : Marks B W ds) (hk : ∀ k : Nat, W.heap[k]? = some (Obj.deferred (some [])) → W'.heap[k]? = some (Obj.deferred (some []))) : Marks B W' ds := by
  obtain ⟨Ds, rfl, hnd, hall⟩ := h
  exact ⟨Ds, rfl, hnd, fun D hD => ⟨(hall D hD).1, hk D (hall D hD).2⟩⟩
theorem Marks.ext {B : Nat} {W W' : World} {ds : List Deferred} (h : Marks B W ds) (hx : Ext W W') : Marks B W' ds :=
  h.keep fun _ hk => (hx.block (Array.getElem?_eq_some_iff.1 hk).1).trans hk
theorem Marks.setCell {B : Nat} {W : World} {ds : List Deferred} (h : Marks B W ds) (a : Addr) (v : Value) : Marks B (W.setCell a v) ds :=
  h.keep fun k hk => (KeepsOthers.setCell W a v).same k _ hk rfl
theorem Marks.book {B B' : Nat} {W W' : World} {ds : List Deferred} (h : Marks B W ds) (hk : Book B' W W') (hlt : ∀ k, (∃ d ∈ ds, d.target = .collected k) → k < B') : Marks B W' ds := by
  obtain ⟨Ds, rfl, hnd, hall⟩ := h
  exact ⟨Ds, rfl, hnd, fun D hD => ⟨(hall D hD).1, hk.block D _ (hall D hD).2 (.inl (hlt D ⟨_, List.mem_map.2 ⟨D, hD, rfl⟩, rfl⟩))⟩⟩

/-- The way out of a function that holds such loops. -/
theorem leaves_marks {n : Nat} {fn : Func} {tmps : Array Value} {R : Ending → World → Prop} {B : Nat} (v : Value) : ∀ (ds : List Deferred) (W : World), Marks B W ds →
    (∀ W', Book B W W' → (results fn tmps).run P W' = .ok v W' ∧ R (.returned v) W') → LeavesInM Fence.wide n P fn tmps R ds .returning W := by
  intro ds
  induction ds with
  | nil =>
    intro W _ h
    obtain ⟨h1, h2⟩ := h W (Book.refl _ _)
    exact ⟨v, h1, h2⟩
  | cons d ds ih =>
    rintro W ⟨Ds, hds, hnd, hall⟩ h
    cases Ds with
    | nil => cases hds
    | cons D Ds =>
      simp only [List.map_cons, List.cons.injEq] at hds
      obtain ⟨rfl, rfl⟩ := hds
      obtain ⟨hB, hD⟩ := hall D (List.mem_cons_self ..)
      have hnd' := List.nodup_cons.1 hnd
      refine ⟨by simp, .inl ⟨D, _, rfl, run_takeDeferred hD, ih _ ⟨Ds, rfl, hnd'.2, fun k hk => ⟨(hall k (List.mem_cons_of_mem _ hk)).1, ?_⟩⟩ fun W' hW' => h W' ((Book.putObj _ hB hD rfl).trans hW')⟩⟩
      rw [World.putObj_heap_other (fun e => hnd'.1 (by rw [← e]; exact hk))]
      exact (hall k (List.mem_cons_of_mem _ hk)).2

/-- A function's contract from its body, where the body holds such loops. -/
theorem calls_marks {f : FuncId} {fn : Func} {c : Code} {args : Array Value} {w : World} {R : Ending → World → Prop}
    (hf : P.funcs[f]? = some fn) (hb : fn.body = some c)
    (h : c.wp P (bodyPostM Fence.wide 0 P fn R) { tmps := args ++ Array.replicate (fn.ntmps - args.size) undef, defers := [] } w) : Calls P f args w R :=
  (callsIn_wide (n := 0)).1 (callsIn_of_wp_marks hf hb trivial (wpIn_wide.2 h))

/-- What the iterator value K, with what it has captured lb, hands over: the numbers k below N for which p holds, one after the other; Ki: what it reads between two rounds. -/
def Iter (P : Program) (K : Nat) (lb : Array Value) (p : Nat → Bool) (N : Nat) (Ki : World → Prop) : Prop :=
  ∀ (l : Nat) (J : Nat → World → Prop) (Jx : World → Prop) (W : World),
    (∀ k W W', Ext W W' → J k W → J k W') → (∀ k W, J k W → Ki W) →
    (∀ k W, k < N → p k = true → J k W → YieldAt Fence.wide 0 P l #[.int .i64 (k : Nat)] W fun e W' => (e = .returned (.bool true) ∧ J (k + 1) W') ∨ (e = .returned (.bool false) ∧ Jx W')) →
    (∀ k W, k < N → p k = false → J k W → J (k + 1) W) →
    J 0 W →
    CallsIn Fence.wide 0 P K (#[.func (.yield l) #[] #[]] ++ lb) W fun e W' => (∃ v, e = .returned v) ∧ (J N W' ∨ Jx W')

/-- How the body of a round may be left. -/
def roundEnd (B : Nat) (I : World → Prop) (Ix : Code → World → Prop) (W : World) : Exit → Act → World → Prop
  | .normal, _, W' => KeepsFrom B W W' ∧ I W'
  | .ret, _, W' => KeepsFrom B W W' ∧ Ix .ret W'
  | .exit id, _, W' => KeepsFrom B W W' ∧ Ix (.exit id) W'
  | .goto t, _, W' => KeepsFrom B W W' ∧ Ix (.goto t) W'
  | .panic _, _, _ => False
  | .outgrown, _, _ => False
theorem KeepsFrom.of_ext {B : Nat} {W W' : World} (h : Ext W W') : KeepsFrom B W W' :=
  ⟨h.size, fun _ _ _ hk _ => (h.block (Array.getElem?_eq_some_iff.1 hk).1).trans hk⟩
theorem KeepsFrom.setCell' (B : Nat) (W : World) (a : Addr) (v : Value) : KeepsFrom B W (W.setCell a v) := (KeepsOthers.setCell W a v).from B

/-- The loop over such an iterator. -/
theorem wp_range {g : Operand} {ps : Array Tmp} {assign body : Code} {Q : Exit → Act → World → Prop} {a : Act} {w : World}
    {K : Nat} {lb : Array Value} {p : Nat → Bool} {N : Nat} {Ki : World → Prop} (hit : Iter P K lb p N Ki)
    (hg : a.eval g = .func (.func K) #[] lb) (eg : ∀ args w, (callFunc K args).run P w = .ok (.enter K args) w) (hps : ps.size = 1)
    (I : Nat → World → Prop) (Ix : Code → World → Prop) (hI : ∀ k W W', Book w.heap.size W W' → I k W → I k W') (hIx : ∀ c W W', Book w.heap.size W W' → Ix c W → Ix c W')
    (hKi : ∀ k W, I k W → Ki W) (h0 : I 0 w)
    (hskip : ∀ k W, k < N → p k = false → I k W → I (k + 1) W)
    (hround : ∀ (l k : Nat) (W : World), k < N → p k = true → I k W → w.heap.size < W.heap.size →
      assign.wpIn (FW (some l)) 0 P (Exit.then (fun a' W' => KeepsFrom w.heap.size W W' ∧ ∀ W'', Book w.heap.size W' W'' → body.wpIn (FW (some l)) 0 P (roundEnd w.heap.size (I (k + 1)) Ix W'') a' W'') (fun _ _ _ => False))
        { tmps := (ps.zip #[Value.int .i64 (k : Nat)]).foldl (fun t (p, v) => t.setIfInBounds p v) a.tmps, defers := [] } W)
    (hdone : ∀ (D : Nat) (W : World), w.heap.size ≤ D → I N W → W.heap[D]? = some (.deferred (some [])) → Q .normal { a with defers := { target := .collected D, args := #[] } :: a.defers } W)
    (hstop : ∀ (D : Nat) (c : Code) (W : World), w.heap.size ≤ D → Ix c W → W.heap[D]? = some (.deferred (some [])) → c.wp P Q { a with defers := { target := .collected D, args := #[] } :: a.defers } W) :
    (Code.rangeFunc g ps assign body).wp P Q a w := by
  refine wpIn_wide (n := 0) |>.1 (wpIn_rangeFunc ?_)
  intro fn hfn
  obtain ⟨rec, hrec⟩ : ∃ rec : LoopState → Option Code → Loop, rec = fun st pe => { state := st, pending := pe, fn, tmps := a.tmps, params := ps, assign, body, defers := w.heap.size } := ⟨_, rfl⟩
  obtain ⟨W1, hW1⟩ : ∃ W1, (w.alloc (.deferred (some []))).alloc (.loop (rec .ready none)) = W1 := ⟨_, rfl⟩
  have hL1 : W1.heap[w.heap.size + 1]? = some (.loop (rec .ready none)) := by
    rw [← hW1]; have := World.alloc_heap_new (w.alloc (.deferred (some []))) (.loop (rec .ready none)); rwa [World.size_alloc] at this
  have hK1 : W1.heap[w.heap.size]? = some (.deferred (some [])) := by
    rw [← hW1]; exact (Below.heap_alloc _ _ _ (by simp)).trans (World.alloc_heap_new w _)
  have hI1 : I 0 W1 := by rw [← hW1]; exact hI _ _ _ (Book.alloc _ _ _) (hI _ _ _ (Book.alloc _ _ _) h0)
  refine ⟨w.heap.size + 1, [{ target := .collected w.heap.size, args := #[] }], W1, { target := .fn (.func K) lb, args := #[.func (.yield (w.heap.size + 1)) #[] #[]] }, W1, K,
    #[.func (.yield (w.heap.size + 1)) #[] #[]] ++ lb, W1, ?_, ?_, ?_, ?_, (fun h => by cases h), ?_⟩
  · rw [← hW1, hrec]; exact run_enterLoop_outer _ _ _ _ _
  · simp only [resolve, hg]
    simp [go_sem]
  · intro f' _; trivial
  · simp [invoke, go_sem, eg]
  · have hput : ∀ (W : World) (l : Nat) (o o' : Obj), w.heap.size ≤ l → W.heap[l]? = some o → o.isCells = false → Book w.heap.size W (W.putObj l o') := fun W l o o' hB hl ho => Book.putObj o' hB hl ho
    refine (hit (w.heap.size + 1)
      (fun k W => I k W ∧ W.heap[w.heap.size + 1]? = some (.loop (rec .ready none)) ∧ W.heap[w.heap.size]? = some (.deferred (some [])))
      (fun W => ∃ c, Ix c W ∧ W.heap[w.heap.size + 1]? = some (.loop (rec .done (some c))) ∧ W.heap[w.heap.size]? = some (.deferred (some [])))
      W1 ?_ (fun k W h => hKi k W h.1) ?_ (fun k W hk hp h => ⟨hskip k W hk hp h.1, h.2⟩) ⟨hI1, hL1, hK1⟩).mono ?_
    · rintro k W W' hx ⟨h1, h2, h3⟩
      exact ⟨hI _ _ _ (Book.of_ext hx) h1, (hx.block (Array.getElem?_eq_some_iff.1 h2).1).trans h2, (hx.block (Array.getElem?_eq_some_iff.1 h3).1).trans h3⟩
    · rintro k W hkN hpk ⟨hi, hl, hk⟩
      have hlt : w.heap.size + 1 < W.heap.size := (Array.getElem?_eq_some_iff.1 hl).1
      have hy := run_yield (P := P) (args := #[Value.int .i64 (k : Nat)]) hl (by rw [hrec]; exact hps.symm)
      rw [hrec] at hy
      refine ⟨fn, _, assign, body, hy, roundIn_of_wpIn hfn (wpIn_mono (hround (w.heap.size + 1) k W hkN hpk hi (by omega)) ?_)⟩
      clear hy
      rintro e0 a' Wa hq
      cases e0 with
      | normal => ?_
      | _ => exact hq
      obtain ⟨hka, hbody⟩ := hq
      have hla := hka.same _ _ (by omega) hl rfl
      have hda := hka.same _ _ (Nat.le_refl _) hk rfl
      have hlta : w.heap.size + 1 < Wa.heap.size := (Array.getElem?_eq_some_iff.1 hla).1
      refine ⟨_, run_beginRound hla (by rw [hrec]), ?_⟩
      have hl2 : (Wa.putObj (w.heap.size + 1) (.loop { rec .ready none with state := .busy })).heap[w.heap.size + 1]? = some (.loop { rec .ready none with state := .busy }) := World.putObj_heap_same hlta
      have hk2 : (Wa.putObj (w.heap.size + 1) (.loop { rec .ready none with state := .busy })).heap[w.heap.size]? = some (.deferred (some [])) := (World.putObj_heap_other (by omega)).trans hda
      have hb2 := hput Wa (w.heap.size + 1) _ (.loop { rec .ready none with state := .busy }) (by omega) hla rfl
      refine wpIn_mono (hbody _ hb2) ?_
      have fin : ∀ (jump : Option Code) (W3 : World), KeepsFrom w.heap.size (Wa.putObj (w.heap.size + 1) (.loop { rec .ready none with state := .busy })) W3 →
          (Instr.endRound (w.heap.size + 1) jump).run P W3 = .ok (.bool jump.isNone) (W3.putObj (w.heap.size + 1) (.loop (rec (if jump.isNone then .ready else .done) jump))) ∧
          W3.heap[w.heap.size + 1]? = some (.loop { rec .ready none with state := .busy }) ∧
          (W3.putObj (w.heap.size + 1) (.loop (rec (if jump.isNone then .ready else .done) jump))).heap[w.heap.size + 1]? = some (.loop (rec (if jump.isNone then .ready else .done) jump)) ∧
          (W3.putObj (w.heap.size + 1) (.loop (rec (if jump.isNone then .ready else .done) jump))).heap[w.heap.size]? = some (.deferred (some [])) := fun jump W3 hk3 => by
        have hl3 := hk3.same _ _ (by omega) hl2 rfl
        have := run_endRound (P := P) jump hl3
        rw [hrec] at this ⊢
        exact ⟨this, by rw [hrec] at hl3; exact hl3, World.putObj_heap_same (Array.getElem?_eq_some_iff.1 hl3).1, (World.putObj_heap_other (by omega)).trans (hk3.same _ _ (Nat.le_refl _) hk2 rfl)⟩
      rintro e a3 W3 hp
      cases e with
      | normal =>
        obtain ⟨hk3, hi3⟩ := hp
        obtain ⟨hr, hl3, hl4, hk4⟩ := fin none W3 hk3
        exact ⟨_, _, hr, .inl ⟨rfl, hI _ _ _ (hput _ _ _ _ (by omega) hl3 rfl) hi3, hl4, hk4⟩⟩
      | ret =>
        obtain ⟨hk3, hi3⟩ := hp
        obtain ⟨hr, hl3, hl4, hk4⟩ := fin (some .ret) W3 hk3
        exact ⟨_, _, hr, .inr ⟨rfl, .ret, hIx _ _ _ (hput _ _ _ _ (by omega) hl3 rfl) hi3, hl4, hk4⟩⟩
      | exit id =>
        obtain ⟨hk3, hi3⟩ := hp
        obtain ⟨hr, hl3, hl4, hk4⟩ := fin (some (.exit id)) W3 hk3
        exact ⟨_, _, hr, .inr ⟨rfl, .exit id, hIx _ _ _ (hput _ _ _ _ (by omega) hl3 rfl) hi3, hl4, hk4⟩⟩
      | goto t =>
        obtain ⟨hk3, hi3⟩ := hp
        obtain ⟨hr, hl3, hl4, hk4⟩ := fin (some (.goto t)) W3 hk3
        exact ⟨_, _, hr, .inr ⟨rfl, .goto t, hIx _ _ _ (hput _ _ _ _ (by omega) hl3 rfl) hi3, hl4, hk4⟩⟩
      | panic ch => exact hp.elim
      | outgrown => exact hp.elim
    · rintro e W2 ⟨⟨v, rfl⟩, (⟨hi, hl, hk⟩ | ⟨c, hi, hl, hk⟩)⟩
      · exact ⟨none, _, by have := run_endLoop (P := P) hl (by rw [hrec]; simp); rw [hrec] at this; exact this, hdone _ _ (Nat.le_refl _) (hI _ _ _ (hput _ _ _ _ (by omega) hl rfl) hi) ((World.putObj_heap_other (by omega)).trans hk)⟩
      · refine ⟨some c, _, by have := run_endLoop (P := P) hl (by rw [hrec]; simp); rw [hrec] at this; exact this, wpIn_wide.2 (hstop _ c _ (Nat.le_refl _) (hIx _ _ _ (hput _ _ _ _ (by omega) hl rfl) hi) ((World.putObj_heap_other (by omega)).trans hk))⟩
/-! ### A loop in whose round the activation's deferred calls may grow -/
/-- The frame l with the slots of ws as u says. -/
def fillFrom (ws : List Nat) (u : Nat → Value) : Nat → List Value → List Value
  | _, [] => []
  | i, x :: r => (if ws.contains i then u i else x) :: fillFrom ws u (i + 1) r
theorem fillFrom_same (ws : List Nat) : ∀ (l : List Value) (i : Nat) (u : Nat → Value), (∀ j, u (i + j) = l.getD j undef) → fillFrom ws u i l = l
  | [], _, _, _ => rfl
  | x :: r, i, u, h => by
    have h0 := h 0
    simp at h0
    unfold fillFrom
    rw [fillFrom_same ws r (i + 1) u (fun j => by have := h (j + 1); simpa [Nat.add_assoc, Nat.add_comm 1 j] using this), h0]
    simp
theorem wp_loop_marks {c : Code} {Q : Exit → Act → World → Prop} (ws : List Nat) (rel : (Nat → Value) → List Deferred → World → Prop) (mu : (Nat → Value) → World → Nat) {l : List Value} {ds : List Deferred} {w : World}
    (h0 : rel (fun i => l.getD i undef) ds w)
    (round : ∀ u ds w, rel u ds w → ∀ K : Act → World → Prop, Hid (∀ tmps ds' w', tmps = (fillFrom ws (fun i => tmps.getD i undef) 0 l).toArray → rel (fun i => tmps.getD i undef) ds' w' → mu (fun i => tmps.getD i undef) w' < mu u w → K { tmps := tmps, defers := ds' } w') →
      c.wp P (Exit.then K Q) { tmps := (fillFrom ws u 0 l).toArray, defers := ds } w) :
    (Code.loop c).wp P Q { tmps := l.toArray, defers := ds } w := by
  have hex : ∀ (a : Act) (w : World), (∃ u ds, a = { tmps := (fillFrom ws u 0 l).toArray, defers := ds } ∧ rel u ds w) →
      ∃ n, ∃ u ds, a = { tmps := (fillFrom ws u 0 l).toArray, defers := ds } ∧ rel u ds w ∧ mu u w = n := fun a w ⟨u, ds, h1, h2⟩ => ⟨_, u, ds, h1, h2, rfl⟩
  -- the measure is the least that any reading of the frame gives
  let I : Act → World → Prop := fun a w => ∃ u ds, a = { tmps := (fillFrom ws u 0 l).toArray, defers := ds } ∧ rel u ds w
  let ok : Act → World → Nat → Prop := fun a w n => ∃ u ds, a = { tmps := (fillFrom ws u 0 l).toArray, defers := ds } ∧ rel u ds w ∧ mu u w = n
  have least : ∀ a w, I a w → ∃ n, ok a w n ∧ ∀ m, m < n → ¬ ok a w m := by
    intro a w hi
    obtain ⟨n, hn⟩ := hex a w hi
    induction n using Nat.strongRecOn with
    | _ n ih =>
      by_cases h : ∃ m, m < n ∧ ok a w m
      · obtain ⟨m, hm, hok⟩ := h
        exact ih m hm hok
      · exact ⟨n, hn, fun m hm hok => h ⟨m, hm, hok⟩⟩
  let μ : Act → World → Nat := fun a w => @dite _ (I a w) (Classical.propDecidable _) (fun h => Classical.choose (least a w h)) (fun _ => 0)
  have hμ : ∀ a w (h : I a w), ok a w (μ a w) ∧ ∀ m, m < μ a w → ¬ ok a w m := by
    intro a w h
    have : μ a w = Classical.choose (least a w h) := dif_pos h
    rw [this]
    exact Classical.choose_spec (least a w h)
  refine wp_loop I μ ⟨_, ds, by rw [fillFrom_same ws l 0 _ (fun j => by simp)], h0⟩ ?_
  intro a w hi
  obtain ⟨⟨u, ds, ha, hr, hm⟩, _⟩ := hμ a w hi
  rw [ha]
  refine Code.wp_mono ?_ (round u ds w hr (fun a' w' => ∃ u' ds', a' = { tmps := (fillFrom ws u' 0 l).toArray, defers := ds' } ∧ rel u' ds' w' ∧ mu u' w' < mu u w)
    (fun tmps ds' w' h1 h2 h3 => ⟨_, ds', congrArg (fun t => ({ tmps := t, defers := ds' } : Act)) h1, h2, h3⟩))
  intro e a' w' hq
  cases e with
  | normal =>
    obtain ⟨u', ds', ha', hr', hlt⟩ := hq
    have hi' : I a' w' := ⟨u', ds', ha', hr'⟩
    refine ⟨hi', ?_⟩
    rw [← ha, ← hm]
    rcases Nat.lt_or_ge (μ a' w') (mu u w) with h | h
    · exact h
    · exact absurd ⟨u', ds', ha', hr', rfl⟩ ((hμ a' w' hi').2 (mu u' w') (by omega))
  | _ => exact hq
end Go.Proofs.YtkmfmhckpfomeaaGreatDoor

/- The two iterators of the program: the nodes of a set, ascending; the sets of at most so many items, ascending. The bounds are those that each names. -/
namespace Go.Proofs.YtkmfmhckpfomeaaGreatDoor
open Go.RowKit
open BigFrame
attribute [local go_sem] Oper.semAt_some

theorem nodes_c (s : Nat) (w : World) :
    Calls Tryz.prog 62 #[.int .i64 s] w fun e w' => e = .returned (.func (.func 126) #[] #[.pointer (some ⟨w.heap.size, 0, none⟩)]) ∧ w' = w.alloc (.cells #[.int .i64 s] 3) := by
  go_enter Tryz.func62, Tryz.ntmps62
  go_wp2
  go_ret
  exact ⟨rfl, rfl⟩
theorem nodes_enters : ∀ args w, (callFunc 126 args).run Tryz.prog w = .ok (.enter 126 args) w :=
  Go.Proofs.enters_of Tryz.func126 (by kernel_rfl) rfl

theorem skip_to {p : Nat → Bool} {N : Nat} {J : Nat → World → Prop} (h : ∀ k W, k < N → p k = false → J k W → J (k + 1) W) {W : World} : ∀ d k, k + d = N → (∀ j, k ≤ j → p j = false) → J k W → J N W
  | 0, k, hk, _, hj => by rwa [show k = N from by omega] at hj
  | d + 1, k, hk, hp, hj => skip_to h d (k + 1) (by omega) (fun j hj => hp j (by omega)) (h k W (by omega) (hp k (Nat.le_refl _)) hj)

set_option maxRecDepth 100000 in
set_option maxHeartbeats 1000000 in
theorem nodes_iter (B s N : Nat) (hs : s < 2 ^ N) (hN : N ≤ 62) :
    Iter Tryz.prog 126 #[.pointer (some ⟨B, 0, none⟩)] (fun k => s.testBit k) N (fun W => W.cell? ⟨B, 0, none⟩ = some (.int .i64 s)) := by
  intro l J Jx W hJ hKi hY hskip h0
  have hs62 : s < 2 ^ 62 := Nat.lt_of_lt_of_le hs (Nat.pow_le_pow_right (by omega) hN)
  have HK := Lib.hid hKi; clear hKi
  have HY := Lib.hid hY; clear hY
  have HS := Lib.hid hskip; clear hskip hJ
  refine callsIn_of_wp Tryz.func126 rfl trivial ?_ rfl
  simp only [Tryz.ntmps126, List.size_toArray, List.length_cons, List.length_nil, Nat.reduceAdd, Nat.reduceSub, Array.replicate_succ, Array.replicate_zero, List.push_toArray, List.append_toArray, List.nil_append, List.cons_append]
  gi_wp2
  gi_loopw [3] (fun i wr => ∃ k : Nat, k ≤ N ∧ i = .int .i64 k ∧ J k wr) (fun i _ => N - (intOf i).toNat)
  case atStart => exact ⟨0, Nat.zero_le _, rfl, h0⟩
  case round =>
    clear h0
    obtain ⟨k, hk, rfl, hj⟩ := hrel
    have HJ := Lib.hid hj; clear hj
    have hc : wr.cell? ⟨B, 0, none⟩ = some (.int .i64 s) := HK.out k wr HJ.out
    have e0 : min k 64 = k := by omega
    have e1 := div_pow_nat s k
    by_cases hz : 0 < shr s k
    · have hkN : k < N := by
        rcases Nat.lt_or_ge k N with h | h
        · exact h
        · exfalso
          have : shr s k = 0 := by
            unfold shr
            rw [Nat.shiftRight_eq_div_pow]
            exact Nat.div_eq_of_lt (Nat.lt_of_lt_of_le hs (Nat.pow_le_pow_right (by omega) h))
          omega
      cases hb : s.testBit k
      · have HB := hb
        gi_wp2_with (gi_at_call 61; refine (callsFW (ro := none) (has_c s k hs62 (by omega) _)).mono ?_; rintro e w' ⟨rfl, rfl⟩)
        go_roundw
        case rel => exact ⟨k + 1, by omega, by go_num, HS.out k _ hkN HB HJ.out⟩
        case measure => simp [intOf]; omega
      · obtain ⟨fn, tmps, assign, body, hy, hR⟩ := HY.out k wr hkN hb HJ.out
        have HR := Lib.hid hR; clear hR
        gi_wp2_with (gi_at_call 61; refine (callsFW (ro := none) (has_c s k hs62 (by omega) _)).mono ?_; rintro e w' ⟨rfl, rfl⟩)
        refine HR.out.mono ?_
        rintro e W3 (⟨rfl, hJ3⟩ | ⟨rfl, hJx3⟩)
        · have HJ3 := Lib.hid hJ3; clear hJ3
          gi_wp2
          go_roundw
          case rel => exact ⟨k + 1, by omega, by go_num, HJ3.out⟩
          case measure => simp [intOf]; omega
        · have HJ3 := Lib.hid hJx3; clear hJx3
          gi_wp2
          refine bodyPost_ret (results_none rfl _ _ _) rfl ?_
          exact ⟨⟨_, rfl⟩, .inr HJ3.out⟩
    · have hz' : shr s k = 0 := by omega
      have HZ := Lib.hid hz'; clear hz'
      gi_wp2
      go_end0
      refine ⟨⟨_, rfl⟩, .inl (skip_to HS.out (N - k) k (by omega) (fun j hj => ?_) HJ.out)⟩
      have h1 : s < 2 ^ k := by
        have := HZ.out
        unfold shr at this
        rw [Nat.shiftRight_eq_div_pow] at this
        exact (Nat.div_eq_zero_iff_lt (Nat.two_pow_pos k)).1 this
      exact Nat.testBit_lt_two_pow (Nat.lt_of_lt_of_le h1 (Nat.pow_le_pow_right (by omega) hj))

/-! ### The sets of at most d of the items -/
theorem few_c (items d : Int) (a : Option Addr) (n c : Nat) (w : World) :
    Calls Tryz.prog 146 #[.agg #[.int .i64 items, .slice a n c], .int .i64 d] w fun e w' =>
      e = .returned (.func (.func 182) #[] #[.pointer (some ⟨w.heap.size, 0, none⟩), .pointer (some ⟨w.heap.size + 1, 0, none⟩)]) ∧ w' = (w.alloc (.cells #[.int .i64 items, .slice a n c] 136)).alloc (.cells #[.int .i64 d] 3) := by
  go_enter Tryz.func146, Tryz.ntmps146
  go_wp2
  go_ret
  exact ⟨rfl, rfl⟩
theorem few_enters : ∀ args w, (callFunc 182 args).run Tryz.prog w = .ok (.enter 182 args) w :=
  Go.Proofs.enters_of Tryz.func182 (by kernel_rfl) rfl
def fewB (d k : Nat) : Bool := decide (cnt k ≤ d)

set_option maxRecDepth 100000 in
set_option maxHeartbeats 1000000 in
theorem few_iter (Bp Bd items d : Nat) (hN : items ≤ 12) :
    Iter Tryz.prog 182 #[.pointer (some ⟨Bp, 0, none⟩), .pointer (some ⟨Bd, 0, none⟩)] (fewB d) (2 ^ items)
      (fun W => W.cell? ⟨Bp, 0, none⟩ = some (.int .i64 items) ∧ W.cell? ⟨Bd, 0, none⟩ = some (.int .i64 d) ∧ Bp < W.heap.size ∧ Bd < W.heap.size) := by
  intro l J Jx W hJ hKi hY hskip h0
  obtain ⟨N, hN1, hN2, hN3, hN4⟩ : ∃ N : Nat, 2 ^ items = N ∧ (2 : Int) ^ items = (N : Int) ∧ 1 ≤ N ∧ N ≤ 4096 := ⟨_, rfl, pow_cast _, Nat.one_le_two_pow, pow_le_12 hN⟩
  rw [hN1] at hY hskip ⊢
  have HN := Lib.hid hN1; clear hN1
  have HK := Lib.hid hKi; clear hKi
  have HY := Lib.hid hY; clear hY
  have HS := Lib.hid hskip; clear hskip
  have HE := Lib.hid hJ; clear hJ
  obtain ⟨c0, -⟩ := HK.out 0 W h0
  have e0 : min items 64 = items := by omega
  refine callsIn_of_wp Tryz.func182 rfl trivial ?_ rfl
  simp only [Tryz.ntmps182, List.size_toArray, List.length_cons, List.length_nil, Nat.reduceAdd, Nat.reduceSub, Array.replicate_succ, Array.replicate_zero, List.push_toArray, List.append_toArray, List.nil_append, List.cons_append]
  gi_wp2
  clear c0
  gi_loopw [8] (fun i wr => ∃ k : Nat, k ≤ N ∧ i = .int .i64 k ∧ J k wr) (fun i _ => N - (intOf i).toNat)
  case atStart => exact ⟨0, Nat.zero_le _, rfl, h0⟩
  case round =>
    clear h0
    obtain ⟨k, hk, rfl, hj⟩ := hrel
    have HJ := Lib.hid hj; clear hj
    obtain ⟨-, c1, -, hlt1⟩ := HK.out k wr HJ.out
    have c2 : ∀ u, (clip wr u).cell? ⟨Bd, 0, none⟩ = some (.int .i64 d) := fun u => (clip_cell wr u hlt1).trans c1
    clear c1
    by_cases hz : k < N
    · have hpop := Lib.hid (pop64_small k (by omega))
      have hle := pop64_le k
      cases hb : fewB d k
      · have HB : Hid (fewB d k = false) := hb
        have hb' : decide (pop64 k ≤ d) = false := by rw [hpop.out]; exact hb
        clear hb
        gi_wp2
        refine wpIn_quiet_tail (ro := none) (C := fun w' => ∃ u, w' = clip wr u) 7 (by kernel_rfl) (by kernel_rfl) (by kernel_rfl) ⟨_, (clip_of (Ext.refl wr).drew).symm⟩ ?_
        simp only [List.take_succ_cons, List.take_zero, List.drop_succ_cons, List.drop_zero]
        repeat (go_big_quiet_step ((go_at_call 65; exact Calls.clip_same (size_c k (by omega) _))))
        refine wpQuiet_nil ?_
        rintro _ ⟨u, rfl⟩
        gi_wp2
        go_roundw
        case rel => exact ⟨k + 1, by omega, by go_num, HE.out _ _ _ (clip_ext wr u) (HS.out k _ hz HB.out HJ.out)⟩
        case measure => simp [intOf]; omega
      · have HB : Hid (fewB d k = true) := hb
        have hb' : decide (pop64 k ≤ d) = true := by rw [hpop.out]; exact hb
        clear hb
        gi_wp2
        refine wpIn_quiet_tail (ro := none) (C := fun w' => ∃ u, w' = clip wr u) 7 (by kernel_rfl) (by kernel_rfl) (by kernel_rfl) ⟨_, (clip_of (Ext.refl wr).drew).symm⟩ ?_
        simp only [List.take_succ_cons, List.take_zero, List.drop_succ_cons, List.drop_zero]
        repeat (go_big_quiet_step ((go_at_call 65; exact Calls.clip_same (size_c k (by omega) _))))
        refine wpQuiet_nil ?_
        rintro _ ⟨u, rfl⟩
        obtain ⟨fn, tmps, assign, body, hy, hR⟩ := HY.out k _ hz HB.out (HE.out _ _ _ (clip_ext wr u) HJ.out)
        have HR := Lib.hid hR; clear hR
        gi_wp2
        refine HR.out.mono ?_
        rintro e W3 (⟨rfl, hJ3⟩ | ⟨rfl, hJx3⟩)
        · have HJ3 := Lib.hid hJ3; clear hJ3
          gi_wp2
          go_roundw
          case rel => exact ⟨k + 1, by omega, by go_num, HJ3.out⟩
          case measure => simp [intOf]; omega
        · have HJ3 := Lib.hid hJx3; clear hJx3
          gi_wp2
          refine bodyPost_ret (results_none rfl _ _ _) rfl ?_
          exact ⟨⟨_, rfl⟩, .inr HJ3.out⟩
    · obtain rfl : k = N := by omega
      gi_wp2
      go_end0
      exact ⟨⟨_, rfl⟩, .inl HJ.out⟩
end Go.Proofs.YtkmfmhckpfomeaaGreatDoor

/- Which lists are graphs: the reference and the program agree with the plain function. The condition: the list has at most 2^20 numbers. -/
namespace Go.Proofs.YtkmfmhckpfomeaaGreatDoor
open Go.RowKit
open BigFrame

theorem Rd.atI {w : World} {a : Option Addr} {n c : Nat} {xs : List Int} (h : Rd w (.slice a n c) xs) {k : Nat} (hk : k < n) :
    ∃ b o, a = some ⟨b, o, none⟩ ∧ n = xs.length ∧ b < w.heap.size ∧ ∀ w', Ext w w' → w'.cell? ⟨b, o + k, none⟩ = some (.int .i64 (getI xs k)) := by
  obtain ⟨a', c', e, h⟩ := h
  simp only [Value.slice.injEq] at e
  obtain ⟨rfl, rfl, rfl⟩ := e
  rcases h with h | ⟨b, o, rfl, hb, hc, h⟩
  · omega
  · exact ⟨b, o, rfl, rfl, hb, fun w' hx => (hx.cell hb).trans (h k hk)⟩

theorem cell_of_heap {W : World} {b : Nat} {v : Value} {t : TypeId} (h : W.heap[b]? = some (.cells #[v] t (0, 0))) : W.cell? ⟨b, 0, none⟩ = some v ∧ W.frozen? ⟨b, 0, none⟩ = false := by
  constructor <;> simp [World.cell?, World.frozen?, h]
theorem one_new (w : World) (x : Value) (t : TypeId) : ∃ W, W = w.alloc (.cells #[x] t) ∧ Ext w W ∧ W.heap.size = w.heap.size + 1 ∧ W.cell? ⟨w.heap.size, 0, none⟩ = some x ∧ W.frozen? ⟨w.heap.size, 0, none⟩ = false :=
  ⟨_, rfl, (Ext.refl w).alloc _, by simp, cell_of_heap (World.alloc_heap_new w _)⟩
/-- Two variables that have just been laid. -/
theorem two_new (w : World) (x y : Value) (t u : TypeId) :
    ∃ W, W = (w.alloc (.cells #[x] t)).alloc (.cells #[y] u) ∧ Ext w W ∧ W.heap.size = w.heap.size + 2 ∧ W.cell? ⟨w.heap.size, 0, none⟩ = some x ∧ W.cell? ⟨w.heap.size + 1, 0, none⟩ = some y ∧ W.frozen? ⟨w.heap.size, 0, none⟩ = false ∧ W.frozen? ⟨w.heap.size + 1, 0, none⟩ = false := by
  have h1 := cell_of_heap (World.alloc_heap_new (w.alloc (.cells #[x] t)) (.cells #[y] u))
  have h2 := cell_of_heap ((Below.heap_alloc (w.alloc (.cells #[x] t)) (.cells #[y] u) w.heap.size (by simp)).trans (World.alloc_heap_new w (.cells #[x] t)))
  simp only [World.size_alloc] at h1
  exact ⟨_, rfl, ((Ext.refl w).alloc _).alloc _, by simp, h2.1, h1.1, h2.2, h1.2⟩

set_option maxHeartbeats 1000000 in
theorem graphInS_c (v : Value) (g : List Int) (w : World) (hv : Rd w v g) (hm : g.length ≤ 1048576) :
    Calls Tryz.prog 110 #[v] w fun e w' => e = .returned (.bool (graphIn g)) ∧ Ext w w' := by
  obtain ⟨a, c, rfl⟩ := hv.form
  have HV := Lib.hid hv; clear hv
  cases h0 : inB 1 g.length 12
  · go_enter Tryz.func110, Tryz.ntmps110
    go_wp2_with (go_at_call 37; refine (l6In_c _ _ _ _).mono ?_; rintro e w' ⟨rfl, rfl⟩)
    go_ret
    exact ⟨ret_bool (graphIn_len h0).symm, Ext.refl _⟩
  · have h0' := inB_iff.1 h0
    have hn : g.length ≤ 12 := by omega
    obtain ⟨p, hp, hp1, hp2, hp3⟩ := pow_var g.length (by omega)
    have HP := Lib.hid hp; clear hp
    have e0 : min g.length 64 = g.length := by omega
    have H0 := Lib.hid h0
    clear h0'
    go_enter Tryz.func110, Tryz.ntmps110
    go_wp2_with (go_at_call 37; refine (l6In_c _ _ _ _).mono ?_; rintro e w' ⟨rfl, rfl⟩)
    go_loopw [4] (fun i wr => ∃ k : Nat, k ≤ g.length ∧ i = .int .i64 k ∧ (∀ j, j < k → rowOk g j = true) ∧ Ext w wr) (fun i _ => g.length - (intOf i).toNat)
    case atStart => exact ⟨0, Nat.zero_le _, rfl, by simp, Ext.refl _⟩
    case round =>
      obtain ⟨k, hk, rfl, hj, hx⟩ := hrel
      have HJ := Lib.hid hj; clear hj
      have HX := Lib.hid hx; clear hx
      by_cases hlt : k < g.length
      · obtain ⟨b, o, rfl, -, -, hc⟩ := HV.out.atI hlt
        have c1 := fun u => hc _ (HX.out.trans (clip_ext wr u))
        clear hc
        cases hs : setB (getI g k) g.length
        · have hs' : inB 0 (getI g k) ((p : Int) - 1) = false := by rw [← HP.out]; exact hs
          have HS := Lib.hid hs; clear hs
          go_wp2
          refine wp_region_ext (by kernel_rfl) (by kernel_rfl) ?_
          repeat (go_big_quiet_step ((go_at_call 37; exact Calls.clip_same (l6In_c _ _ _ _))))
          refine wpQuiet_nil ?_
          rintro _ ⟨u, rfl⟩
          go_wp2
          go_ret
          exact ⟨ret_bool (graphIn_row hlt (by unfold rowOk; rw [HS.out]; rfl)).symm, HX.out.trans (clip_ext _ _)⟩
        · have hs' : inB 0 (getI g k) ((p : Int) - 1) = true := by rw [← HP.out]; exact hs
          obtain ⟨hr1, hr2⟩ := row_of_set hs
          have hr3 : gN g k < 2 ^ 62 := Nat.lt_of_lt_of_le hr2 (Nat.pow_le_pow_right (by omega) (by omega))
          have HS := Lib.hid hs; clear hs
          rw [hr1] at hs' c1
          clear hr1 hr2
          cases hb : (gN g k).testBit k
          · go_wp2
            refine wp_region_ext (by kernel_rfl) (by kernel_rfl) ?_
            repeat (go_big_quiet_step (first | (go_at_call 37; exact Calls.clip_same (l6In_c _ _ _ _)) | (go_at_call 152; exact Calls.clip_same (l1Bit_c _ _ hr3 (by omega) _))))
            refine wpQuiet_nil ?_
            rintro _ ⟨u, rfl⟩
            go_wp2
            go_roundw
            case rel => exact ⟨k + 1, by omega, by go_num, fun j hj => by
              by_cases h : j = k
              · subst h; unfold rowOk; rw [HS.out, hb]; rfl
              · exact HJ.out j (by omega), HX.out.trans (clip_ext _ _)⟩
            case measure => simp [intOf]; omega
          · go_wp2
            refine wp_region_ext (by kernel_rfl) (by kernel_rfl) ?_
            repeat (go_big_quiet_step (first | (go_at_call 37; exact Calls.clip_same (l6In_c _ _ _ _)) | (go_at_call 152; exact Calls.clip_same (l1Bit_c _ _ hr3 (by omega) _))))
            refine wpQuiet_nil ?_
            rintro _ ⟨u, rfl⟩
            go_wp2
            go_ret
            exact ⟨ret_bool (graphIn_row hlt (by unfold rowOk; rw [HS.out, hb]; rfl)).symm, HX.out.trans (clip_ext _ _)⟩
      · go_wp2
        obtain rfl : k = g.length := by omega
        have HR : Hid (∀ i, i < g.length → getI g i = (gN g i : Int) ∧ gN g i < 2 ^ 62) := fun i hi => by
          have := HJ.out i hi
          unfold rowOk at this
          simp only [Bool.and_eq_true] at this
          obtain ⟨h1, h2⟩ := row_of_set this.1
          exact ⟨h1, Nat.lt_of_lt_of_le h2 (Nat.pow_le_pow_right (by omega) (by omega))⟩
        go_loopw [5, 6] (fun i q wr => ∃ k : Nat, k ≤ g.length ∧ i = .int .i64 k ∧ (∀ j, j < k → ∀ m, m < g.length → (gN g j).testBit m = (gN g m).testBit j) ∧ Ext w wr) (fun i _ _ => g.length - (intOf i).toNat)
        case atStart => exact ⟨0, Nat.zero_le _, rfl, by simp, HX.out⟩
        case round =>
          obtain ⟨k, hk, rfl, hj, hx⟩ := hrel
          have HJ2 := Lib.hid hj; clear hj
          have HX2 := Lib.hid hx; clear hx HX
          by_cases hlt : k < g.length
          · go_wp2
            obtain ⟨wo, rfl⟩ : ∃ wo : World, wo = wr := ⟨_, rfl⟩
            go_loopw [6] (fun q wr => ∃ m : Nat, m ≤ g.length ∧ q = .int .i64 m ∧ (∀ j, j < m → (gN g k).testBit j = (gN g j).testBit k) ∧ Ext w wr) (fun q _ => g.length - (intOf q).toNat)
            case atStart => exact ⟨0, Nat.zero_le _, rfl, by simp, HX2.out⟩
            case round =>
              obtain ⟨m, hm', rfl, hj, hx⟩ := hrel
              have HJ3 := Lib.hid hj; clear hj
              have HX3 := Lib.hid hx; clear hx HX2
              by_cases hlm : m < g.length
              · obtain ⟨b, o, rfl, -, -, hc⟩ := HV.out.atI hlt
                have c1 := fun u => hc _ (HX3.out.trans (clip_ext wr u))
                clear hc
                obtain ⟨b', o', he, -, -, hc⟩ := HV.out.atI hlm
                obtain ⟨rfl, rfl⟩ : b = b' ∧ o = o' := by simpa using he
                have c2 := fun u => hc _ (HX3.out.trans (clip_ext wr u))
                clear hc he
                obtain ⟨r1, r2⟩ := HR.out k hlt
                obtain ⟨r3, r4⟩ := HR.out m hlm
                rw [r1] at c1; rw [r3] at c2
                clear r1 r3
                have q1 : ((gN g k).testBit m).toNat ≤ 1 := by cases (gN g k).testBit m <;> decide
                obtain ⟨x, hx⟩ : ∃ x, x = (gN g k).testBit m := ⟨_, rfl⟩
                obtain ⟨y, hy⟩ : ∃ y, y = (gN g m).testBit k := ⟨_, rfl⟩
                have L1 := l1Bit_c (gN g k) m r2 (by omega)
                have L2 := l1Bit_c (gN g m) k r4 (by omega)
                rw [← hx] at L1; rw [← hy] at L2
                have HL1 := Lib.hid L1; have HL2 := Lib.hid L2
                have HXX := Lib.hid hx; have HYY := Lib.hid hy
                clear L1 L2 hx hy q1
                by_cases he : x = y
                · subst he
                  go_wp2
                  refine wp_region_ext (by kernel_rfl) (by kernel_rfl) ?_
                  repeat (go_big_quiet_step (first | (go_at_call 152; with_reducible exact Calls.clip_same (HL1.out _)) | (go_at_call 152; with_reducible exact Calls.clip_same (HL2.out _))))
                  refine wpQuiet_nil ?_
                  rintro _ ⟨u, rfl⟩
                  go_wp2
                  go_roundw
                  case rel => exact ⟨m + 1, by omega, by go_num, fun j hj => by
                    by_cases h : j = m
                    · subst h; rw [← HXX.out, ← HYY.out]
                    · exact HJ3.out j (by omega), HX3.out.trans (clip_ext _ _)⟩
                  case measure => simp [intOf]; omega
                · have hne : (((x.toNat : Nat) : Int) != ((y.toNat : Nat) : Int)) = true := by cases x <;> cases y <;> first | rfl | exact absurd rfl he
                  have hne' : x.toNat ≠ y.toNat := by cases x <;> cases y <;> first | decide | exact absurd rfl he
                  have HE := Lib.hid he; clear he
                  go_wp2
                  refine wp_region_ext (by kernel_rfl) (by kernel_rfl) ?_
                  repeat (go_big_quiet_step (first | (go_at_call 152; with_reducible exact Calls.clip_same (HL1.out _)) | (go_at_call 152; with_reducible exact Calls.clip_same (HL2.out _))))
                  refine wpQuiet_nil ?_
                  rintro _ ⟨u, rfl⟩
                  go_wp2
                  go_ret
                  exact ⟨ret_bool (graphIn_sym (i := k) (k := m) (by rw [← HXX.out, ← HYY.out]; exact HE.out)).symm, HX3.out.trans (clip_ext _ _)⟩
              · obtain rfl : m = g.length := by omega
                go_wp2
                go_roundw
                case rel => exact ⟨k + 1, by omega, by go_num, fun j hj m hm => by
                  by_cases h : j = k
                  · subst h; exact HJ3.out m hm
                  · exact HJ2.out j (by omega) m hm, HX3.out⟩
                case measure => simp [intOf]; omega
          · obtain rfl : k = g.length := by omega
            go_wp2
            go_ret
            exact ⟨ret_bool (graphIn_of H0.out HJ.out HJ2.out).symm, HX2.out⟩
end Go.Proofs.YtkmfmhckpfomeaaGreatDoor
