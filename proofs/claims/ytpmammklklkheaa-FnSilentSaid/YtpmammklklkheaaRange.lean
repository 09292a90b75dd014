/- A range over a function whose iterator hands over, one after the other, the numbers k below N for which p holds: the loop's law, and the way out of a function that holds such loops. No condition. -/
import Derived.Test.YtpmammklklkheaaCore
namespace Go.Proofs.Ytpmammklklkheaa
open Go.RowKit

variable {P : Program}

/-- W' is W but for new blocks, and for what is no cells and lies at or beyond B: the books of loops. -/
structure Book (B : Nat) (W W' : World) : Prop where
  os : W'.os = W.os
  tape : W'.tape = W.tape
  output : W'.output = W.output
  size : W.heap.size ≤ W'.heap.size
  block : ∀ k o, W.heap[k]? = some o → (k < B ∨ o.isCells = true) → W'.heap[k]? = some o
theorem Book.refl (B : Nat) (W : World) : Book B W W := ⟨rfl, rfl, rfl, Nat.le_refl _, fun _ _ h _ => h⟩
theorem Book.trans {B : Nat} {X Y Z : World} (h : Book B X Y) (k : Book B Y Z) : Book B X Z :=
  ⟨k.os.trans h.os, k.tape.trans h.tape, k.output.trans h.output, Nat.le_trans h.size k.size, fun i o hi ho => k.block i o (h.block i o hi ho) ho⟩
theorem Book.alloc (B : Nat) (W : World) (o : Obj) : Book B W (W.alloc o) :=
  ⟨rfl, rfl, rfl, by simp, fun k _ hk _ => (Below.heap_alloc W o k (Array.getElem?_eq_some_iff.1 hk).1).trans hk⟩
theorem Book.putObj {B : Nat} {W : World} {l : Nat} {o : Obj} (o' : Obj) (hB : B ≤ l) (hl : W.heap[l]? = some o) (ho : o.isCells = false) : Book B W (W.putObj l o') :=
  ⟨rfl, rfl, rfl, by simp, fun k u hk hu => (World.putObj_heap_other (fun e => by
    subst e
    rw [hl] at hk
    obtain rfl := Option.some.inj hk
    rcases hu with hu | hu
    · omega
    · rw [ho] at hu; cases hu)).trans hk⟩
theorem Book.of_ext {B : Nat} {W W' : World} (h : Ext W W') : Book B W W' :=
  ⟨h.os, h.tape, h.output, h.size, fun _ _ hk _ => (Ext.block h (Array.getElem?_eq_some_iff.1 hk).1).trans hk⟩
theorem Book.mono {B B' : Nat} {W W' : World} (h : Book B W W') (hB : B' ≤ B) : Book B' W W' :=
  ⟨h.os, h.tape, h.output, h.size, fun k o hk ho => h.block k o hk (ho.imp (fun h => Nat.lt_of_lt_of_le h hB) id)⟩
theorem Ext.book {B : Nat} {w W W' : World} (h : Ext w W) (hB : w.heap.size ≤ B) (hk : Book B W W') : Ext w W' :=
  ⟨hk.os.trans h.os, hk.tape.trans h.tape, hk.output.trans h.output, Nat.le_trans h.size hk.size, fun i hi => by
    rw [← Below.block h i hi]
    have hi' : i < W.heap.size := Nat.lt_of_lt_of_le hi h.size
    exact (hk.block i _ (Array.getElem?_eq_getElem hi') (.inl (Nat.lt_of_lt_of_le hi hB))).trans (Array.getElem?_eq_getElem hi').symm⟩
theorem Below.book {B b : Nat} {w W W' : World} (h : Below b w W) (hb : b ≤ w.heap.size) (hB : b ≤ B) (hk : Book B W W') : Below b w W' :=
  ⟨hk.os.trans h.os, hk.tape.trans h.tape, hk.output.trans h.output, Nat.le_trans h.size hk.size, fun i hi => by
    rw [← Below.block h i hi]
    have hi' : i < W.heap.size := Nat.lt_of_lt_of_le (Nat.lt_of_lt_of_le hi hb) h.size
    exact (hk.block i _ (Array.getElem?_eq_getElem hi') (.inl (Nat.lt_of_lt_of_le hi hB))).trans (Array.getElem?_eq_getElem hi').symm⟩
theorem Book.cell {B : Nat} {W W' : World} (h : Book B W W') {a : Addr} {v : Value} (hv : W.cell? a = some v) : W'.cell? a = some v := by
  obtain ⟨o, ho, hc⟩ := cells_of_cell hv
  have := h.block a.block o ho (.inr hc)
  exact (World.cell?_of_block (this.trans ho.symm)).trans hv
theorem Book.frozen {B : Nat} {W W' : World} (h : Book B W W') {a : Addr} {v : Value} (hv : W.cell? a = some v) (hf : W.frozen? a = false) : W'.frozen? a = false := by
  obtain ⟨o, ho, hc⟩ := cells_of_cell hv
  have := h.block a.block o ho (.inr hc)
  exact (World.frozen?_of_block (this.trans ho.symm)).trans hf
theorem Rd.book {B : Nat} {W W' : World} (h : Book B W W') {v : Value} {xs : List Int} (hv : Rd W v xs) : Rd W' v xs := by
  obtain ⟨a, c, rfl, hv⟩ := hv
  refine ⟨a, c, rfl, hv.imp id ?_⟩
  rintro ⟨b, o, rfl, hb, hc, hv⟩
  exact ⟨b, o, rfl, Nat.lt_of_lt_of_le hb h.size, hc, fun i hi => h.cell (hv i hi)⟩
theorem Own.book {B : Nat} {W W' : World} (h : Book B W W') {base : Nat} {v : Value} {xs : List Int} (hv : Own W base v xs) : Own W' base v xs := by
  obtain ⟨h1, h2⟩ := hv
  refine ⟨h1, ?_⟩
  rcases h2 with h2 | ⟨g, cap, cur, hv, hg, hh, r⟩
  · exact Or.inl h2
  · exact Or.inr ⟨g, cap, cur, hv, hg, h.block g _ hh (.inr rfl), r⟩

/-- The marks that loops have left among the activation's deferred calls: each names a block that holds none. -/
def Marks (B : Nat) (W : World) (ds : List Deferred) : Prop :=
  ∃ Ds : List Nat, ds = Ds.map (fun D => { target := .collected D, args := #[] }) ∧ Ds.Nodup ∧ ∀ D ∈ Ds, B ≤ D ∧ W.heap[D]? = some (.deferred (some []))
theorem Marks.nil (B : Nat) (W : World) : Marks B W [] := ⟨[], rfl, List.nodup_nil, fun _ h => by cases h⟩
theorem Marks.cons {B : Nat} {W : World} {ds : List Deferred} {D n : Nat} (h : Marks B W ds) (hlt : ∀ k, (∃ d ∈ ds, d.target = .collected k) → k < n) (hn : n ≤ D) (hB : B ≤ D) (hD : W.heap[D]? = some (.deferred (some []))) :
    Marks B W ({ target := .collected D, args := #[] } :: ds) := by
  obtain ⟨Ds, rfl, hnd, hall⟩ := h
  refine ⟨D :: Ds, rfl, List.nodup_cons.2 ⟨fun hm => ?_, hnd⟩, fun k hk => ?_⟩
  · have := hlt D ⟨_, List.mem_map.2 ⟨D, hm, rfl⟩, rfl⟩
    omega
  · rcases List.mem_cons.1 hk with rfl | hk
    · exact ⟨hB, hD⟩
    · exact hall k hk
theorem Marks.lt {B : Nat} {W : World} {ds : List Deferred} (h : Marks B W ds) : ∀ k, (∃ d ∈ ds, d.target = .collected k) → k < W.heap.size := by
  obtain ⟨Ds, rfl, hnd, hall⟩ := h
  rintro k ⟨d, hd, e⟩
  obtain ⟨D, hD, rfl⟩ := List.mem_map.1 hd
  simp only [Target.collected.injEq] at e
  subst e
  exact (Array.getElem?_eq_some_iff.1 (hall _ hD).2).1
theorem Marks.keep {B : Nat} {W W' : World} {ds : List Deferred} (h : Marks B W ds) (hk : ∀ k : Nat, W.heap[k]? = some (Obj.deferred (some [])) → W'.heap[k]? = some (Obj.deferred (some []))) : Marks B W' ds := by
  obtain ⟨Ds, rfl, hnd, hall⟩ := h
  exact ⟨Ds, rfl, hnd, fun D hD => ⟨(hall D hD).1, hk D (hall D hD).2⟩⟩
theorem Marks.ext {B : Nat} {W W' : World} {ds : List Deferred} (h : Marks B W ds) (hx : Ext W W') : Marks B W' ds :=
  h.keep fun _ hk => (hx.block (Array.getElem?_eq_some_iff.1 hk).1).trans hk
theorem Marks.setCell {B : Nat} {W : World} {ds : List Deferred} (h : Marks B W ds) (a : Addr) (v : Value) : Marks B (W.setCell a v) ds :=
  h.keep fun k hk => (KeepsOthers.setCell W a v).same k _ hk rfl
theorem Marks.book {B B' : Nat} {W W' : World} {ds : List Deferred} (h : Marks B W ds) (hk : Book B' W W') (hlt : ∀ k, (∃ d ∈ ds, d.target = .collected k) → k < B') : Marks B W' ds := by
  obtain ⟨Ds, rfl, hnd, hall⟩ := h
  exact ⟨Ds, rfl, hnd, fun D hD => ⟨(hall D hD).1, hk.block D _ (hall D hD).2 (.inl (hlt D ⟨_, List.mem_map.2 ⟨D, hD, rfl⟩, rfl⟩))⟩⟩

/-- The way out of a function that holds such loops. -/
theorem leaves_marks {n : Nat} {fn : Func} {tmps : Array Value} {R : Ending → World → Prop} {B : Nat} (v : Value) : ∀ (ds : List Deferred) (W : World), Marks B W ds →
    (∀ W', Book B W W' → (results fn tmps).run P W' = .ok v W' ∧ R (.returned v) W') → LeavesInM Fence.wide n P fn tmps R ds .returning W := by
  intro ds
  induction ds with
  | nil =>
    intro W _ h
    obtain ⟨h1, h2⟩ := h W (Book.refl _ _)
    exact ⟨v, h1, h2⟩
  | cons d ds ih =>
    rintro W ⟨Ds, hds, hnd, hall⟩ h
    cases Ds with
    | nil => cases hds
    | cons D Ds =>
      simp only [List.map_cons, List.cons.injEq] at hds
      obtain ⟨rfl, rfl⟩ := hds
      obtain ⟨hB, hD⟩ := hall D (List.mem_cons_self ..)
      have hnd' := List.nodup_cons.1 hnd
      refine ⟨by simp, .inl ⟨D, _, rfl, run_takeDeferred hD, ih _ ⟨Ds, rfl, hnd'.2, fun k hk => ⟨(hall k (List.mem_cons_of_mem _ hk)).1, ?_⟩⟩ fun W' hW' => h W' ((Book.putObj _ hB hD rfl).trans hW')⟩⟩
      rw [World.putObj_heap_other (fun e => hnd'.1 (by rw [← e]; exact hk))]
      exact (hall k (List.mem_cons_of_mem _ hk)).2

/-- A function's contract from its body, where the body holds such loops. -/
theorem calls_marks {f : FuncId} {fn : Func} {c : Code} {args : Array Value} {w : World} {R : Ending → World → Prop}
    (hf : P.funcs[f]? = some fn) (hb : fn.body = some c)
    (h : c.wp P (bodyPostM Fence.wide 0 P fn R) { tmps := args ++ Array.replicate (fn.ntmps - args.size) undef, defers := [] } w) : Calls P f args w R :=
  (callsIn_wide (n := 0)).1 (callsIn_of_wp_marks hf hb trivial (wpIn_wide.2 h))

/-- What the iterator value K, with what it has captured lb, hands over: the numbers k below N for which p holds, one after the other; Ki: what it reads between two rounds. -/
def Iter (P : Program) (K : Nat) (lb : Array Value) (p : Nat → Bool) (N : Nat) (Ki : World → Prop) : Prop :=
  ∀ (l : Nat) (J : Nat → World → Prop) (Jx : World → Prop) (W : World),
    (∀ k W W', Ext W W' → J k W → J k W') → (∀ k W, J k W → Ki W) →
    (∀ k W, k < N → p k = true → J k W → YieldAt Fence.wide 0 P l #[.int .i64 (k : Nat)] W fun e W' => (e = .returned (.bool true) ∧ J (k + 1) W') ∨ (e = .returned (.bool false) ∧ Jx W')) →
    (∀ k W, k < N → p k = false → J k W → J (k + 1) W) →
    J 0 W →
    CallsIn Fence.wide 0 P K (#[.func (.yield l) #[] #[]] ++ lb) W fun e W' => (∃ v, e = .returned v) ∧ (J N W' ∨ Jx W')

/-- How the body of a round may be left. -/
def roundEnd (B : Nat) (I : World → Prop) (Ix : Code → World → Prop) (W : World) : Exit → Act → World → Prop
  | .normal, _, W' => KeepsFrom B W W' ∧ I W'
  | .ret, _, W' => KeepsFrom B W W' ∧ Ix .ret W'
  | .exit id, _, W' => KeepsFrom B W W' ∧ Ix (.exit id) W'
  | .goto t, _, W' => KeepsFrom B W W' ∧ Ix (.goto t) W'
  | .panic _, _, _ => False
  | .outgrown, _, _ => False
theorem KeepsFrom.of_ext {B : Nat} {W W' : World} (h : Ext W W') : KeepsFrom B W W' :=
  ⟨h.size, fun _ _ _ hk _ => (h.block (Array.getElem?_eq_some_iff.1 hk).1).trans hk⟩
theorem KeepsFrom.setCell' (B : Nat) (W : World) (a : Addr) (v : Value) : KeepsFrom B W (W.setCell a v) := (KeepsOthers.setCell W a v).from B

/-- The loop over such an iterator. -/
theorem wp_range {g : Operand} {ps : Array Tmp} {assign body : Code} {Q : Exit → Act → World → Prop} {a : Act} {w : World}
    {K : Nat} {lb : Array Value} {p : Nat → Bool} {N : Nat} {Ki : World → Prop} (hit : Iter P K lb p N Ki)
    (hg : a.eval g = .func (.func K) #[] lb) (eg : ∀ args w, (callFunc K args).run P w = .ok (.enter K args) w) (hps : ps.size = 1)
    (I : Nat → World → Prop) (Ix : Code → World → Prop) (hI : ∀ k W W', Book w.heap.size W W' → I k W → I k W') (hIx : ∀ c W W', Book w.heap.size W W' → Ix c W → Ix c W')
    (hKi : ∀ k W, I k W → Ki W) (h0 : I 0 w)
    (hskip : ∀ k W, k < N → p k = false → I k W → I (k + 1) W)
    (hround : ∀ (l k : Nat) (W : World), k < N → p k = true → I k W → w.heap.size < W.heap.size →
      assign.wpIn (FW (some l)) 0 P (Exit.then (fun a' W' => KeepsFrom w.heap.size W W' ∧ ∀ W'', Book w.heap.size W' W'' → body.wpIn (FW (some l)) 0 P (roundEnd w.heap.size (I (k + 1)) Ix W'') a' W'') (fun _ _ _ => False))
        { tmps := (ps.zip #[Value.int .i64 (k : Nat)]).foldl (fun t (p, v) => t.setIfInBounds p v) a.tmps, defers := [] } W)
    (hdone : ∀ (D : Nat) (W : World), w.heap.size ≤ D → I N W → W.heap[D]? = some (.deferred (some [])) → Q .normal { a with defers := { target := .collected D, args := #[] } :: a.defers } W)
    (hstop : ∀ (D : Nat) (c : Code) (W : World), w.heap.size ≤ D → Ix c W → W.heap[D]? = some (.deferred (some [])) → c.wp P Q { a with defers := { target := .collected D, args := #[] } :: a.defers } W) :
    (Code.rangeFunc g ps assign body).wp P Q a w := by
  refine wpIn_wide (n := 0) |>.1 (wpIn_rangeFunc ?_)
  intro fn hfn
  obtain ⟨rec, hrec⟩ : ∃ rec : LoopState → Option Code → Loop, rec = fun st pe => { state := st, pending := pe, fn, tmps := a.tmps, params := ps, assign, body, defers := w.heap.size } := ⟨_, rfl⟩
  obtain ⟨W1, hW1⟩ : ∃ W1, (w.alloc (.deferred (some []))).alloc (.loop (rec .ready none)) = W1 := ⟨_, rfl⟩
  have hL1 : W1.heap[w.heap.size + 1]? = some (.loop (rec .ready none)) := by
    rw [← hW1]; have := World.alloc_heap_new (w.alloc (.deferred (some []))) (.loop (rec .ready none)); rwa [World.size_alloc] at this
  have hK1 : W1.heap[w.heap.size]? = some (.deferred (some [])) := by
    rw [← hW1]; exact (Below.heap_alloc _ _ _ (by simp)).trans (World.alloc_heap_new w _)
  have hI1 : I 0 W1 := by rw [← hW1]; exact hI _ _ _ (Book.alloc _ _ _) (hI _ _ _ (Book.alloc _ _ _) h0)
  refine ⟨w.heap.size + 1, [{ target := .collected w.heap.size, args := #[] }], W1, { target := .fn (.func K) lb, args := #[.func (.yield (w.heap.size + 1)) #[] #[]] }, W1, K,
    #[.func (.yield (w.heap.size + 1)) #[] #[]] ++ lb, W1, ?_, ?_, ?_, ?_, (fun h => by cases h), ?_⟩
  · rw [← hW1, hrec]; exact run_enterLoop_outer _ _ _ _ _
  · simp only [resolve, hg]
    simp [go_sem]
  · intro f' _; trivial
  · simp [invoke, go_sem, eg]
  · have hput : ∀ (W : World) (l : Nat) (o o' : Obj), w.heap.size ≤ l → W.heap[l]? = some o → o.isCells = false → Book w.heap.size W (W.putObj l o') := fun W l o o' hB hl ho => Book.putObj o' hB hl ho
    refine (hit (w.heap.size + 1)
      (fun k W => I k W ∧ W.heap[w.heap.size + 1]? = some (.loop (rec .ready none)) ∧ W.heap[w.heap.size]? = some (.deferred (some [])))
      (fun W => ∃ c, Ix c W ∧ W.heap[w.heap.size + 1]? = some (.loop (rec .done (some c))) ∧ W.heap[w.heap.size]? = some (.deferred (some [])))
      W1 ?_ (fun k W h => hKi k W h.1) ?_ (fun k W hk hp h => ⟨hskip k W hk hp h.1, h.2⟩) ⟨hI1, hL1, hK1⟩).mono ?_
    · rintro k W W' hx ⟨h1, h2, h3⟩
      exact ⟨hI _ _ _ (Book.of_ext hx) h1, (hx.block (Array.getElem?_eq_some_iff.1 h2).1).trans h2, (hx.block (Array.getElem?_eq_some_iff.1 h3).1).trans h3⟩
    · rintro k W hkN hpk ⟨hi, hl, hk⟩
      have hlt : w.heap.size + 1 < W.heap.size := (Array.getElem?_eq_some_iff.1 hl).1
      have hy := run_yield (P := P) (args := #[Value.int .i64 (k : Nat)]) hl (by rw [hrec]; exact hps.symm)
      rw [hrec] at hy
      refine ⟨fn, _, assign, body, hy, roundIn_of_wpIn hfn (wpIn_mono (hround (w.heap.size + 1) k W hkN hpk hi (by omega)) ?_)⟩
      clear hy
      rintro e0 a' Wa hq
      cases e0 with
      | normal => ?_
      | _ => exact hq
      obtain ⟨hka, hbody⟩ := hq
      have hla := hka.same _ _ (by omega) hl rfl
      have hda := hka.same _ _ (Nat.le_refl _) hk rfl
      have hlta : w.heap.size + 1 < Wa.heap.size := (Array.getElem?_eq_some_iff.1 hla).1
      refine ⟨_, run_beginRound hla (by rw [hrec]), ?_⟩
      have hl2 : (Wa.putObj (w.heap.size + 1) (.loop { rec .ready none with state := .busy })).heap[w.heap.size + 1]? = some (.loop { rec .ready none with state := .busy }) := World.putObj_heap_same hlta
      have hk2 : (Wa.putObj (w.heap.size + 1) (.loop { rec .ready none with state := .busy })).heap[w.heap.size]? = some (.deferred (some [])) := (World.putObj_heap_other (by omega)).trans hda
      have hb2 := hput Wa (w.heap.size + 1) _ (.loop { rec .ready none with state := .busy }) (by omega) hla rfl
      refine wpIn_mono (hbody _ hb2) ?_
      have fin : ∀ (jump : Option Code) (W3 : World), KeepsFrom w.heap.size (Wa.putObj (w.heap.size + 1) (.loop { rec .ready none with state := .busy })) W3 →
          (Instr.endRound (w.heap.size + 1) jump).run P W3 = .ok (.bool jump.isNone) (W3.putObj (w.heap.size + 1) (.loop (rec (if jump.isNone then .ready else .done) jump))) ∧
          W3.heap[w.heap.size + 1]? = some (.loop { rec .ready none with state := .busy }) ∧
          (W3.putObj (w.heap.size + 1) (.loop (rec (if jump.isNone then .ready else .done) jump))).heap[w.heap.size + 1]? = some (.loop (rec (if jump.isNone then .ready else .done) jump)) ∧
          (W3.putObj (w.heap.size + 1) (.loop (rec (if jump.isNone then .ready else .done) jump))).heap[w.heap.size]? = some (.deferred (some [])) := fun jump W3 hk3 => by
        have hl3 := hk3.same _ _ (by omega) hl2 rfl
        have := run_endRound (P := P) jump hl3
        rw [hrec] at this ⊢
        exact ⟨this, by rw [hrec] at hl3; exact hl3, World.putObj_heap_same (Array.getElem?_eq_some_iff.1 hl3).1, (World.putObj_heap_other (by omega)).trans (hk3.same _ _ (Nat.le_refl _) hk2 rfl)⟩
      rintro e a3 W3 hp
      cases e with
      | normal =>
        obtain ⟨hk3, hi3⟩ := hp
        obtain ⟨hr, hl3, hl4, hk4⟩ := fin none W3 hk3
        exact ⟨_, _, hr, .inl ⟨rfl, hI _ _ _ (hput _ _ _ _ (by omega) hl3 rfl) hi3, hl4, hk4⟩⟩
      | ret =>
        obtain ⟨hk3, hi3⟩ := hp
        obtain ⟨hr, hl3, hl4, hk4⟩ := fin (some .ret) W3 hk3
        exact ⟨_, _, hr, .inr ⟨rfl, .ret, hIx _ _ _ (hput _ _ _ _ (by omega) hl3 rfl) hi3, hl4, hk4⟩⟩
      | exit id =>
        obtain ⟨hk3, hi3⟩ := hp
        obtain ⟨hr, hl3, hl4, hk4⟩ := fin (some (.exit id)) W3 hk3
        exact ⟨_, _, hr, .inr ⟨rfl, .exit id, hIx _ _ _ (hput _ _ _ _ (by omega) hl3 rfl) hi3, hl4, hk4⟩⟩
      | goto t =>
        obtain ⟨hk3, hi3⟩ := hp
        obtain ⟨hr, hl3, hl4, hk4⟩ := fin (some (.goto t)) W3 hk3
        exact ⟨_, _, hr, .inr ⟨rfl, .goto t, hIx _ _ _ (hput _ _ _ _ (by omega) hl3 rfl) hi3, hl4, hk4⟩⟩
      | panic ch => exact hp.elim
      | outgrown => exact hp.elim
    · rintro e W2 ⟨⟨v, rfl⟩, (⟨hi, hl, hk⟩ | ⟨c, hi, hl, hk⟩)⟩
      · exact ⟨none, _, by have := run_endLoop (P := P) hl (by rw [hrec]; simp); rw [hrec] at this; exact this, hdone _ _ (Nat.le_refl _) (hI _ _ _ (hput _ _ _ _ (by omega) hl rfl) hi) ((World.putObj_heap_other (by omega)).trans hk)⟩
      · refine ⟨some c, _, by have := run_endLoop (P := P) hl (by rw [hrec]; simp); rw [hrec] at this; exact this, wpIn_wide.2 (hstop _ c _ (Nat.le_refl _) (hIx _ _ _ (hput _ _ _ _ (by omega) hl rfl) hi) ((World.putObj_heap_other (by omega)).trans hk))⟩
/-! ### A loop in whose round the activation's deferred calls may grow -/
/-- The frame l with the slots of ws as u says. -/
def fillFrom (ws : List Nat) (u : Nat → Value) : Nat → List Value → List Value
  | _, [] => []
  | i, x :: r => (if ws.contains i then u i else x) :: fillFrom ws u (i + 1) r
theorem fillFrom_same (ws : List Nat) : ∀ (l : List Value) (i : Nat) (u : Nat → Value), (∀ j, u (i + j) = l.getD j undef) → fillFrom ws u i l = l
  | [], _, _, _ => rfl
  | x :: r, i, u, h => by
    have h0 := h 0
    simp at h0
    unfold fillFrom
    rw [fillFrom_same ws r (i + 1) u (fun j => by have := h (j + 1); simpa [Nat.add_assoc, Nat.add_comm 1 j] using this), h0]
    simp
theorem wp_loop_marks {c : Code} {Q : Exit → Act → World → Prop} (ws : List Nat) (rel : (Nat → Value) → List Deferred → World → Prop) (mu : (Nat → Value) → World → Nat) {l : List Value} {ds : List Deferred} {w : World}
    (h0 : rel (fun i => l.getD i undef) ds w)
    (round : ∀ u ds w, rel u ds w → ∀ K : Act → World → Prop, Hid (∀ tmps ds' w', tmps = (fillFrom ws (fun i => tmps.getD i undef) 0 l).toArray → rel (fun i => tmps.getD i undef) ds' w' → mu (fun i => tmps.getD i undef) w' < mu u w → K { tmps := tmps, defers := ds' } w') →
      c.wp P (Exit.then K Q) { tmps := (fillFrom ws u 0 l).toArray, defers := ds } w) :
    (Code.loop c).wp P Q { tmps := l.toArray, defers := ds } w := by
  have hex : ∀ (a : Act) (w : World), (∃ u ds, a = { tmps := (fillFrom ws u 0 l).toArray, defers := ds } ∧ rel u ds w) →
      ∃ n, ∃ u ds, a = { tmps := (fillFrom ws u 0 l).toArray, defers := ds } ∧ rel u ds w ∧ mu u w = n := fun a w ⟨u, ds, h1, h2⟩ => ⟨_, u, ds, h1, h2, rfl⟩
  -- the measure is the least that any reading of the frame gives
  let I : Act → World → Prop := fun a w => ∃ u ds, a = { tmps := (fillFrom ws u 0 l).toArray, defers := ds } ∧ rel u ds w
  let ok : Act → World → Nat → Prop := fun a w n => ∃ u ds, a = { tmps := (fillFrom ws u 0 l).toArray, defers := ds } ∧ rel u ds w ∧ mu u w = n
  have least : ∀ a w, I a w → ∃ n, ok a w n ∧ ∀ m, m < n → ¬ ok a w m := by
    intro a w hi
    obtain ⟨n, hn⟩ := hex a w hi
    induction n using Nat.strongRecOn with
    | _ n ih =>
      by_cases h : ∃ m, m < n ∧ ok a w m
      · obtain ⟨m, hm, hok⟩ := h
        exact ih m hm hok
      · exact ⟨n, hn, fun m hm hok => h ⟨m, hm, hok⟩⟩
  let μ : Act → World → Nat := fun a w => @dite _ (I a w) (Classical.propDecidable _) (fun h => Classical.choose (least a w h)) (fun _ => 0)
  have hμ : ∀ a w (h : I a w), ok a w (μ a w) ∧ ∀ m, m < μ a w → ¬ ok a w m := by
    intro a w h
    have : μ a w = Classical.choose (least a w h) := dif_pos h
    rw [this]
    exact Classical.choose_spec (least a w h)
  refine wp_loop I μ ⟨_, ds, by rw [fillFrom_same ws l 0 _ (fun j => by simp)], h0⟩ ?_
  intro a w hi
  obtain ⟨⟨u, ds, ha, hr, hm⟩, _⟩ := hμ a w hi
  rw [ha]
  refine Code.wp_mono ?_ (round u ds w hr (fun a' w' => ∃ u' ds', a' = { tmps := (fillFrom ws u' 0 l).toArray, defers := ds' } ∧ rel u' ds' w' ∧ mu u' w' < mu u w)
    (fun tmps ds' w' h1 h2 h3 => ⟨_, ds', congrArg (fun t => ({ tmps := t, defers := ds' } : Act)) h1, h2, h3⟩))
  intro e a' w' hq
  cases e with
  | normal =>
    obtain ⟨u', ds', ha', hr', hlt⟩ := hq
    have hi' : I a' w' := ⟨u', ds', ha', hr'⟩
    refine ⟨hi', ?_⟩
    rw [← ha, ← hm]
    rcases Nat.lt_or_ge (μ a' w') (mu u w) with h | h
    · exact h
    · exact absurd ⟨u', ds', ha', hr', rfl⟩ ((hμ a' w' hi').2 (mu u' w') (by omega))
  | _ => exact hq
end Go.Proofs.Ytpmammklklkheaa
