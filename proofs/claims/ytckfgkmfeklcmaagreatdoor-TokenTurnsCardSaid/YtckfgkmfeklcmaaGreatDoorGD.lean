/- The texts Range, Maps, UtfE, UtfF, UtfG of this claim in one: the walks and plain laws that the statement's proof rests on. -/
import Derived.Test.YtckfgkmfeklcmaaGreatDoorGB
import Derived.RangeFuncNested
import Derived.RangeFuncBound
import Derived.RangeFuncCalls
import Derived.RangeFuncLeaves
import Derived.RangeFuncFrom
import Derived.Shelf.Abstract
import Derived.Shelf.RegionOpen
import Derived.OwnWalkIn
import Derived.TacticsInMore
import Derived.LoopNIn
import Derived.LoopIn
import Derived.Carry
import Derived.Test.YtckfgkmfeklcmaaGreatDoorGC
import Derived.OneCell
import Derived.RegionIn
import Derived.BigRegionIn
import Derived.Maps.AppendAt
set_option linter.unusedVariables false
set_option linter.unusedSimpArgs false
/- A range over a function whose iterator writes cells of its own: one law (turned from the library's RangeFuncKeeps), at the wide fence. -/
namespace Go.Proofs.YtckfgkmfeklcmaaGreatDoor
open Go.RowKit

/-- what may turn about a caller's invariant: blocks of Xs, and whatever is no cells from block n0 on -/
structure Turns (n0 : Nat) (Xs : Nat → Prop) (A B : World) : Prop where
  os : B.os = A.os
  tape : B.tape = A.tape
  output : B.output = A.output
  size : A.heap.size ≤ B.heap.size
  same : ∀ (k : Nat) (o : Obj), A.heap[k]? = some o → ¬ Xs k → (o.isCells = true ∨ k < n0) → B.heap[k]? = some o
/-- what an iterator may turn: blocks of Xs -/
structure ItTurns (Xs : Nat → Prop) (A B : World) : Prop where
  os : B.os = A.os
  tape : B.tape = A.tape
  output : B.output = A.output
  size : A.heap.size ≤ B.heap.size
  same : ∀ (k : Nat) (o : Obj), A.heap[k]? = some o → ¬ Xs k → B.heap[k]? = some o
theorem ItTurns.turns {n0 : Nat} {Xs : Nat → Prop} {A B : World} (h : ItTurns Xs A B) : Turns n0 Xs A B := ⟨h.os, h.tape, h.output, h.size, fun k o a b _ => h.same k o a b⟩
theorem ItTurns.refl (Xs : Nat → Prop) (A : World) : ItTurns Xs A A := ⟨rfl, rfl, rfl, Nat.le_refl _, fun _ _ h _ => h⟩
theorem ItTurns.trans {Xs : Nat → Prop} {A B C : World} (h : ItTurns Xs A B) (k : ItTurns Xs B C) : ItTurns Xs A C :=
  ⟨k.os.trans h.os, k.tape.trans h.tape, k.output.trans h.output, Nat.le_trans h.size k.size, fun i o a b => k.same i o (h.same i o a b) b⟩
theorem ItTurns.of_up {Xs : Nat → Prop} {A B : World} (h : Up A B) : ItTurns Xs A B :=
  ⟨h.os, h.tape, h.output, h.size, fun k _ a _ => (h.block k (Array.getElem?_eq_some_iff.1 a).1).trans a⟩
theorem ItTurns.set {Xs : Nat → Prop} {A B : World} (h : ItTurns Xs A B) (a : Addr) (v : Value) (hx : Xs a.block) : ItTurns Xs A (B.setCell a v) :=
  ⟨h.os, h.tape, h.output, by simpa using h.size, fun k o b c => (Below.heap_setCell B a v k (fun e => c (e ▸ hx))).trans (h.same k o b c)⟩
theorem ItTurns.drew {Xs : Nat → Prop} {A B : World} (h : ItTurns Xs A B) : ItTurns Xs A B.drew := ⟨h.os, h.tape, h.output, h.size, h.same⟩
theorem Turns.putObj {n0 : Nat} {A : World} {l : Nat} {o : Obj} (o' : Obj) (h : A.heap[l]? = some o) (ho : o.isCells = false) (hl : n0 ≤ l) (Xs : Nat → Prop) : Turns n0 Xs A (A.putObj l o') :=
  ⟨rfl, rfl, rfl, by simp, fun k q a _ c => (World.putObj_heap_other (fun e => by
    subst e
    rw [h] at a; cases a
    rcases c with c | c
    · rw [ho] at c; cases c
    · omega)).trans a⟩
/-- a block of cells is kept -/
theorem Turns.cells {n0 : Nat} {Xs : Nat → Prop} {A B : World} (h : Turns n0 Xs A B) {k : Nat} {c : Array Value} {t : TypeId} {f : Nat × Nat} (hk : A.heap[k]? = some (.cells c t f)) (hx : ¬ Xs k) : B.heap[k]? = some (.cells c t f) := h.same k _ hk hx (.inl rfl)
theorem Turns.row {n0 : Nat} {Xs : Nat → Prop} {A B : World} (h : Turns n0 Xs A B) {base e size n : Nat} {v : Value} {xs : List Value} (hr : A.ownsRow base e size v n xs) (hx : ∀ k, base ≤ k → ¬ Xs k) : B.ownsRow base e size v n xs := by
  refine ⟨hr.1, ?_⟩
  rcases hr.2 with h0 | ⟨g, cap, cur, hv, hb, hg, rest⟩
  · exact .inl h0
  · exact .inr ⟨g, cap, cur, hv, hb, h.cells hg (hx g hb), rest⟩
theorem Turns.below {n0 : Nat} {Xs : Nat → Prop} {w A B : World} (h : Turns n0 Xs A B) {m : Nat} (hb : Below m w A) (hm : m ≤ n0) (hw : m ≤ w.heap.size) (hx : ∀ k, k < m → ¬ Xs k) : Below m w B :=
  ⟨h.os.trans hb.os, h.tape.trans hb.tape, h.output.trans hb.output, Nat.le_trans hb.size h.size, fun k hk => by
    have h1 := hb.block k hk
    have h2 : k < w.heap.size := by omega
    rw [Array.getElem?_eq_getElem h2] at h1 ⊢
    exact h.same k _ h1 (hx k hk) (.inr (by omega))⟩

/-- what a body keeps for the iterator: the blocks of R -/
structure KeepR (R : Nat → Prop) (A B : World) : Prop where
  size : A.heap.size ≤ B.heap.size
  same : ∀ k, R k → B.heap[k]? = A.heap[k]?
theorem KeepR.refl (R : Nat → Prop) (A : World) : KeepR R A A := ⟨Nat.le_refl _, fun _ _ => rfl⟩
theorem KeepR.trans {R : Nat → Prop} {A B C : World} (h : KeepR R A B) (k : KeepR R B C) : KeepR R A C := ⟨Nat.le_trans h.size k.size, fun i hi => (k.same i hi).trans (h.same i hi)⟩

def SeqC {α : Type} (P : Program) (g : Nat) (lb : Array Value) (encs : α → Array Value) (Xs R : Nat → Prop) (T : List α → α → Prop) (S Sp : List α → World → Prop) (w : World) : Prop :=
  ∀ (n l : Nat) (J Jx : List α → World → Prop) (W : World), (∀ pre A B, J pre A → ItTurns Xs A B → J pre B) → (∀ pre A B, Jx pre A → ItTurns Xs A B → Jx pre B) →
    (∀ pre x W1, J pre W1 → T pre x → YieldAt Fence.wide (n - 1) P l (encs x) W1 fun e W' =>
      (e = .returned (.bool true) ∧ J (pre ++ [x]) W' ∧ KeepR R W1 W') ∨ (e = .returned (.bool false) ∧ Jx (pre ++ [x]) W' ∧ KeepR R W1 W')) →
    J [] W → KeepR R w W →
    CallsIn Fence.wide n P g (#[.func (.yield l) #[] #[]] ++ lb) W fun e W' => (∃ v, e = .returned v) ∧ ((∃ xs, S xs W' ∧ J xs W') ∨ (∃ pre, Sp pre W' ∧ Jx pre W'))

/-- how the body of a round may be left -/
def bodyPostC {α : Type} (R : Nat → Prop) (I : List α → World → Prop) (Ix : Code → List α → World → Prop) (xs : List α) (W : World) : Exit → Act → World → Prop
  | .normal, _, W' => KeepsOthers W W' ∧ KeepR R W W' ∧ I xs W'
  | .ret, _, W' => KeepsOthers W W' ∧ KeepR R W W' ∧ Ix .ret xs W'
  | .exit id, _, W' => KeepsOthers W W' ∧ KeepR R W W' ∧ Ix (.exit id) xs W'
  | .goto t, _, W' => KeepsOthers W W' ∧ KeepR R W W' ∧ Ix (.goto t) xs W'
  | .panic _, _, _ => False
  | .outgrown, _, _ => False

theorem wpIn_rangeC {P : Program} {n : Nat} {α : Type} {g : Operand} {ps : Array Tmp} {assign body : Code} {Q : Exit → Act → World → Prop} {a : Act} {w : World}
    {gf : Nat} {lb : Array Value} (hg : a.eval g = .func (.func gf) #[] lb) (eg : ∀ args w, (callFunc gf args).run P w = .ok (.enter gf args) w)
    {encs : α → Array Value} {Xs R : Nat → Prop} {T : List α → α → Prop} {S Sp : List α → World → Prop} (hseq : SeqC P gf lb encs Xs R T S Sp w) (hR : ∀ k, R k → k < w.heap.size)
    (hS : ∀ xs A B, S xs A → Turns w.heap.size (fun _ => False) A B → S xs B) (hSp : ∀ xs A B, Sp xs A → Turns w.heap.size (fun _ => False) A B → Sp xs B) (hps : ∀ x, (encs x).size = ps.size)
    (I : List α → World → Prop) (Ix : Code → List α → World → Prop) (hI : ∀ pre A B, I pre A → Turns w.heap.size Xs A B → I pre B) (hIx : ∀ c pre A B, Ix c pre A → Turns w.heap.size Xs A B → Ix c pre B) (h0 : I [] w) (a₁ : α → Act)
    (hXs : ∀ k, Xs k → k < w.heap.size)
    (hassign : ∀ (l : Nat) (x : α) (W : World) (K : Act → World → Prop), K (a₁ x) W →
      assign.wpIn (Fence.wide.inRound l) (n - 1 - 1) P (Exit.then K (fun _ _ _ => False)) { tmps := (ps.zip (encs x)).foldl (fun t (p, v) => t.setIfInBounds p v) a.tmps, defers := [] } W)
    (hbody : ∀ (l : Nat) (pre : List α) (x : α) (W : World), I pre W → T pre x → w.heap.size ≤ W.heap.size → body.wpIn (Fence.wide.inRound l) (n - 1 - 1) P (bodyPostC R I Ix (pre ++ [x]) W) (a₁ x) W)
    (hdone : ∀ (D : Nat) (xs : List α) (W : World), S xs W → I xs W → W.heap[D]? = some (.deferred (some [])) → w.heap.size ≤ D → Q .normal { a with defers := { target := .collected D, args := #[] } :: a.defers } W)
    (hstop : ∀ (D : Nat) (c : Code) (pre : List α) (W : World), Sp pre W → Ix c pre W → W.heap[D]? = some (.deferred (some [])) → w.heap.size ≤ D → c.wpIn Fence.wide n P Q { a with defers := { target := .collected D, args := #[] } :: a.defers } W) :
    (Code.rangeFunc g ps assign body).wpIn Fence.wide n P Q a w := by
  refine wpIn_rangeFunc ?_
  intro fn hfn
  rw [show Fence.wide.round = none from rfl]
  obtain ⟨rec, hrec⟩ : ∃ rec : LoopState → Option Code → Loop, rec = fun st pe => { state := st, pending := pe, fn, tmps := a.tmps, params := ps, assign, body, defers := w.heap.size } := ⟨_, rfl⟩
  obtain ⟨W1, hW1⟩ : ∃ W1, (w.alloc (.deferred (some []))).alloc (.loop (rec .ready none)) = W1 := ⟨_, rfl⟩
  have hL1 : W1.heap[w.heap.size + 1]? = some (.loop (rec .ready none)) := by
    rw [← hW1]; have := World.alloc_heap_new (w.alloc (.deferred (some []))) (.loop (rec .ready none)); rwa [World.size_alloc] at this
  have hK1 : W1.heap[w.heap.size]? = some (.deferred (some [])) := by
    rw [← hW1]; exact (Below.heap_alloc _ _ _ (by simp)).trans (World.alloc_heap_new w _)
  have hU1 : Up w W1 := by rw [← hW1]; exact ((Up.self w).alloc _).alloc _
  have hI1 : I [] W1 := hI _ _ _ h0 (ItTurns.of_up hU1).turns
  have hnX : ∀ k, w.heap.size ≤ k → ¬ Xs k := fun k hk hx => by have := hXs k hx; omega
  refine ⟨w.heap.size + 1, [{ target := .collected w.heap.size, args := #[] }], W1, { target := .fn (.func gf) lb, args := #[.func (.yield (w.heap.size + 1)) #[] #[]] }, W1, gf,
    #[.func (.yield (w.heap.size + 1)) #[] #[]] ++ lb, W1, ?_, ?_, ?_, ?_, fun h => by simp [Fence.wide] at h, ?_⟩
  · rw [← hW1, hrec]; exact run_enterLoop_outer _ _ _ _ _
  · simp only [resolve, hg]
    simp [go_sem]
  · intro f' hf'; exact trivial
  · simp [invoke, go_sem, eg]
  · refine (hseq (n - 1) (w.heap.size + 1)
      (fun pre W => I pre W ∧ W.heap[w.heap.size + 1]? = some (.loop (rec .ready none)) ∧ W.heap[w.heap.size]? = some (.deferred (some [])))
      (fun pre W => ∃ c, Ix c pre W ∧ W.heap[w.heap.size + 1]? = some (.loop (rec .done (some c))) ∧ W.heap[w.heap.size]? = some (.deferred (some [])))
      W1
      (fun s A B hs ht => ⟨hI s A B hs.1 ht.turns, ht.same _ _ hs.2.1 (hnX _ (by omega)), ht.same _ _ hs.2.2 (hnX _ (by omega))⟩)
      (fun s A B hs ht => by
        obtain ⟨c, hc, hl, hk⟩ := hs
        exact ⟨c, hIx c s A B hc ht.turns, ht.same _ _ hl (hnX _ (by omega)), ht.same _ _ hk (hnX _ (by omega))⟩)
      ?_ ⟨hI1, hL1, hK1⟩ ⟨hU1.size, fun k hk => hU1.block k (hR k hk)⟩).mono ?_
    · rintro pre x W ⟨hi, hl, hk⟩ hT
      have hlt : w.heap.size + 1 < W.heap.size := (Array.getElem?_eq_some_iff.1 hl).1
      have hy := run_yield (P := P) (args := encs x) hl (by rw [hrec]; exact hps x)
      rw [hrec] at hy
      refine ⟨fn, _, assign, body, hy, roundIn_of_wpIn hfn (hassign _ x W _ ⟨_, run_beginRound hl (by rw [hrec]), ?_⟩)⟩
      have hl2 : (W.putObj (w.heap.size + 1) (.loop { rec .ready none with state := .busy })).heap[w.heap.size + 1]? = some (.loop { rec .ready none with state := .busy }) := World.putObj_heap_same hlt
      have hk2 : (W.putObj (w.heap.size + 1) (.loop { rec .ready none with state := .busy })).heap[w.heap.size]? = some (.deferred (some [])) := (World.putObj_heap_other (by omega)).trans hk
      have hRput : ∀ (V : World) (o : Obj), KeepR R V (V.putObj (w.heap.size + 1) o) := fun V o => ⟨by simp, fun k hk => World.putObj_heap_other (by have := hR k hk; omega)⟩
      refine wpIn_mono (hbody _ pre x _ (hI _ _ _ hi (Turns.putObj _ hl rfl (by omega) _)) hT (by simp; omega)) ?_
      have fin : ∀ (jump : Option Code) (W3 : World), KeepsOthers (W.putObj (w.heap.size + 1) (.loop { rec .ready none with state := .busy })) W3 →
          (Instr.endRound (w.heap.size + 1) jump).run P W3 = .ok (.bool jump.isNone) (W3.putObj (w.heap.size + 1) (.loop (rec (if jump.isNone then .ready else .done) jump))) ∧
          W3.heap[w.heap.size + 1]? = some (.loop { rec .ready none with state := .busy }) ∧
          (W3.putObj (w.heap.size + 1) (.loop (rec (if jump.isNone then .ready else .done) jump))).heap[w.heap.size + 1]? = some (.loop (rec (if jump.isNone then .ready else .done) jump)) ∧
          (W3.putObj (w.heap.size + 1) (.loop (rec (if jump.isNone then .ready else .done) jump))).heap[w.heap.size]? = some (.deferred (some [])) := fun jump W3 hk3 => by
        have hl3 := hk3.same _ _ hl2 rfl
        have := run_endRound (P := P) jump hl3
        rw [hrec] at this ⊢
        exact ⟨this, by rw [hrec] at hl3; exact hl3, World.putObj_heap_same (Array.getElem?_eq_some_iff.1 hl3).1, (World.putObj_heap_other (by omega)).trans (hk3.same _ _ hk2 rfl)⟩
      rintro e a3 W3 hp
      cases e with
      | normal =>
        obtain ⟨hk3, hkp3, hi3⟩ := hp
        obtain ⟨hr, hl3, hl4, hk4⟩ := fin none W3 hk3
        exact ⟨_, _, hr, .inl ⟨rfl, ⟨hI _ _ _ hi3 (Turns.putObj _ hl3 rfl (by omega) _), hl4, hk4⟩, ((hRput _ _).trans hkp3).trans (hRput _ _)⟩⟩
      | ret =>
        obtain ⟨hk3, hkp3, hi3⟩ := hp
        obtain ⟨hr, hl3, hl4, hk4⟩ := fin (some .ret) W3 hk3
        exact ⟨_, _, hr, .inr ⟨rfl, ⟨.ret, hIx _ _ _ _ hi3 (Turns.putObj _ hl3 rfl (by omega) _), hl4, hk4⟩, ((hRput _ _).trans hkp3).trans (hRput _ _)⟩⟩
      | exit id =>
        obtain ⟨hk3, hkp3, hi3⟩ := hp
        obtain ⟨hr, hl3, hl4, hk4⟩ := fin (some (.exit id)) W3 hk3
        exact ⟨_, _, hr, .inr ⟨rfl, ⟨.exit id, hIx _ _ _ _ hi3 (Turns.putObj _ hl3 rfl (by omega) _), hl4, hk4⟩, ((hRput _ _).trans hkp3).trans (hRput _ _)⟩⟩
      | goto t =>
        obtain ⟨hk3, hkp3, hi3⟩ := hp
        obtain ⟨hr, hl3, hl4, hk4⟩ := fin (some (.goto t)) W3 hk3
        exact ⟨_, _, hr, .inr ⟨rfl, ⟨.goto t, hIx _ _ _ _ hi3 (Turns.putObj _ hl3 rfl (by omega) _), hl4, hk4⟩, ((hRput _ _).trans hkp3).trans (hRput _ _)⟩⟩
      | panic ch => exact hp.elim
      | outgrown => exact hp.elim
    · rintro e W2 ⟨⟨v, rfl⟩, (⟨xs, hS1, hi, hl, hk⟩ | ⟨pre, hSp1, c, hi, hl, hk⟩)⟩
      · exact ⟨none, _, by have := run_endLoop (P := P) hl (by rw [hrec]; simp); rw [hrec] at this; exact this, hdone _ xs _ (hS _ _ _ hS1 (Turns.putObj _ hl rfl (by omega) _)) (hI _ _ _ hi (Turns.putObj _ hl rfl (by omega) _)) ((World.putObj_heap_other (by omega)).trans hk) (Nat.le_refl _)⟩
      · exact ⟨some c, _, by have := run_endLoop (P := P) hl (by rw [hrec]; simp); rw [hrec] at this; exact this, hstop _ c pre _ (hSp _ _ _ hSp1 (Turns.putObj _ hl rfl (by omega) _)) (hIx _ _ _ _ hi (Turns.putObj _ hl rfl (by omega) _)) ((World.putObj_heap_other (by omega)).trans hk) (Nat.le_refl _)⟩

/-! a scope without a goto, inside a fence -/
section
variable {P : Program} {b : Frame} {a : Act} {k : List Item} {cs : List Frame} {w : World} {Q : Exit → Act → World → Prop} {F : Fence} {n : Nat}
theorem stepR_scope {c : Code} : step P (lone (b.atR a (.code (.scope c) :: k)) cs w) = .next (lone (b.atR a (.code c :: .inScope c :: k)) cs w) :=
  step_lone_go (by simp [stepG, stepG.exec, Frame.atR])
theorem stepR_inScope {c : Code} : step P (lone (b.atR a (.inScope c :: k)) cs w) = .next (lone (b.atR a k) cs w) :=
  step_lone_go (by simp [stepG, stepG.exec, Frame.atR])
theorem wpIn_scope_straight {c : Code} (h : c.wpIn F n P (Exit.noGoto Q) a w) : (Code.scope c).wpIn F n P Q a w := by
  intro b k cs hro hb hr
  have h0 : (lone (b.atR a (.code (.scope c) :: k)) cs w).fenced P F := fenced_calm hb hr rfl
  obtain ⟨e, a₁, w₁, hq, harr⟩ := h b (.inScope c :: k) cs hro hb hr
  cases e with
  | normal => exact ⟨.normal, a₁, w₁, hq, .head h0 stepR_scope (StepsIn.trans harr (.one (fenced_calm hb hr rfl) stepR_inScope))⟩
  | exit id =>
    have hx : exitTo id (.inScope c :: k) = exitTo id k := by simp [exitTo]
    exact ⟨.exit id, a₁, w₁, hq, fun k' hk => .head h0 stepR_scope (harr.1 k' (by rw [hx]; exact hk)),
      fun hr' hk => let ⟨k₁, h1, h2⟩ := harr.2 hr' (by rw [hx]; exact hk); ⟨k₁, h1, .head h0 stepR_scope h2⟩⟩
  | goto l => exact hq.elim
  | ret => exact ⟨_, a₁, w₁, hq, .of_steps (.one h0 stepR_scope) harr⟩
  | panic ch => exact ⟨_, a₁, w₁, hq, .of_steps (.one h0 stepR_scope) harr⟩
  | outgrown => exact ⟨_, a₁, w₁, hq, .of_steps (.one h0 stepR_scope) harr⟩
end
end Go.Proofs.YtckfgkmfeklcmaaGreatDoor

/- Maps that a call makes, as lists of their entries. -/
namespace Go.Proofs.YtckfgkmfeklcmaaGreatDoor
open Go.RowKit

/-- block b is a map of these entries, in the order in which they came -/
def MapAt (w : World) (b : Nat) (kv : List (Value × Value)) : Prop :=
  ∃ es clock, w.heap[b]? = some (.map es clock) ∧ es.toList.map (fun e => (e.key, e.val)) = kv ∧ ∀ e ∈ es.toList, e.born < clock
theorem MapAt.new (w : World) : MapAt (w.alloc (.map #[] 0)) w.heap.size [] := ⟨#[], 0, heap_new rfl, rfl, by simp⟩
theorem MapAt.lt {w : World} {b : Nat} {kv : List (Value × Value)} (h : MapAt w b kv) : b < w.heap.size := by
  obtain ⟨es, c, h, _⟩ := h
  exact (Array.getElem?_eq_some_iff.1 h).1
theorem MapAt.same {w w' : World} {b : Nat} {kv : List (Value × Value)} (h : MapAt w b kv) (hs : w'.heap[b]? = w.heap[b]?) : MapAt w' b kv := by
  obtain ⟨es, c, h, r⟩ := h
  exact ⟨es, c, hs.trans h, r⟩
theorem MapAt.up {w w' : World} {b : Nat} {kv : List (Value × Value)} (h : MapAt w b kv) (u : Up w w') : MapAt w' b kv := h.same (u.block b h.lt)

section
variable {P : Program} {w : World} {b : Nat} {kv : List (Value × Value)} {T K E : TypeId} {d : TypeDesc}

theorem findNow_none (k : Value) (f : Value → Bool) : ∀ (es : List MapEntry) (i : Nat), (∀ e ∈ es, Instr.sameNow d k e.key = some (f e.key)) → (∀ e ∈ es, f e.key = false) → Instr.findNow d k es i = some none := by
  intro es
  induction es with
  | nil => intro i _ _; rfl
  | cons e es ih =>
    intro i h1 h2
    simp only [Instr.findNow]
    rw [h1 e (by simp), h2 e (by simp)]
    exact ih (i + 1) (fun x hx => h1 x (by simp [hx])) (fun x hx => h2 x (by simp [hx]))
theorem findNow_some (k : Value) (f : Value → Bool) : ∀ (es : List MapEntry) (i : Nat) (p : MapEntry), (∀ e ∈ es, Instr.sameNow d k e.key = some (f e.key)) → es.find? (fun e => f e.key) = some p → ∃ j, Instr.findNow d k es i = some (some (j, p.val)) := by
  intro es
  induction es with
  | nil => intro i p _ h; simp at h
  | cons e es ih =>
    intro i p h1 h2
    simp only [Instr.findNow]
    rw [h1 e (by simp)]
    rw [List.find?_cons] at h2
    cases hf : f e.key
    · rw [hf] at h2
      exact ih (i + 1) p (fun x hx => h1 x (by simp [hx])) h2
    · rw [hf] at h2
      simp only [Option.some.injEq] at h2
      exact ⟨i, by rw [h2]⟩

/-- the kinds of keys that are held here: no interface, array or struct -/
def plainKey : TypeDesc → Bool
  | .int _ => true | .string => true | .bool => true | _ => false
theorem run_checkKey (e : Bool) (k : Value) (hK : P.underlying K = some d) (hd : plainKey d = true) : (Instr.checkKey e 10000 K k).run P w = .ok () w := by
  unfold Instr.checkKey
  simp only [Sem.run_bind, run_underlying hK, Result.andThen]
  cases d <;> simp [plainKey] at hd <;> simp [Sem.run_pure]

theorem find_kv {es : List MapEntry} (f : Value → Bool) (h : es.map (fun e => (e.key, e.val)) = kv) : (es.find? (fun e => f e.key)).map (fun e => e.val) = (kv.find? (fun p => f p.1)).map (fun p => p.2) := by
  subst h
  induction es with
  | nil => rfl
  | cons e es ih =>
    simp only [List.map_cons, List.find?_cons]
    cases f e.key <;> simp [ih]
theorem mem_kv {es : List MapEntry} (h : es.map (fun e => (e.key, e.val)) = kv) {e : MapEntry} (he : e ∈ es) : (e.key, e.val) ∈ kv := by
  subst h
  exact List.mem_map.2 ⟨e, he, rfl⟩

theorem run_lookup_ok (h : MapAt w b kv) (k z : Value) (f : Value → Bool) (hT : P.underlying T = some (.map K E)) (hK : P.underlying K = some d) (hd : plainKey d = true) (hz : (zeroValue E).run P w = .ok z w)
    (hf : ∀ p ∈ kv, Instr.sameNow d k p.1 = some (f p.1)) (c : Bool) :
    (Instr.lookup T (.map (some b)) k c).run P w = .ok (if c then .tuple #[((kv.find? fun p => f p.1).map (·.2)).getD z, .bool (kv.find? fun p => f p.1).isSome] else ((kv.find? fun p => f p.1).map (·.2)).getD z) w := by
  obtain ⟨es, clock, hb, hkv, _⟩ := h
  have hmem : ∀ e ∈ es.toList, Instr.sameNow d k e.key = some (f e.key) := fun e he => hf _ (mem_kv hkv he)
  have hfk := find_kv f hkv
  unfold Instr.lookup
  simp only [Sem.run_bind, run_underlying hT, Result.andThen, getObj, Sem.run, hb, Sem.run_pure, run_checkKey _ _ hK hd, Instr.findKey, run_underlying hK]
  cases hfind : es.toList.find? (fun e => f e.key) with
  | none =>
    have hno : ∀ e ∈ es.toList, f e.key = false := fun e he => by have := List.find?_eq_none.1 hfind e he; simpa using this
    rw [findNow_none k f es.toList 0 hmem hno]
    rw [hfind] at hfk
    have h2 : kv.find? (fun p => f p.1) = none := by
      cases hx : kv.find? (fun p => f p.1) with
      | none => rfl
      | some p => rw [hx] at hfk; simp at hfk
    rw [h2]
    simp [Sem.run_pure, Sem.run_bind, hz, Result.andThen]
  | some p =>
    obtain ⟨j, hj⟩ := findNow_some k f es.toList 0 p hmem hfind
    rw [hj]
    rw [hfind] at hfk
    cases hx : kv.find? (fun p => f p.1) with
    | none => rw [hx] at hfk; simp at hfk
    | some q =>
      rw [hx] at hfk
      simp at hfk
      simp [Sem.run_pure, hfk]

theorem run_update_new (h : MapAt w b kv) (k v : Value) (f : Value → Bool) (hT : P.underlying T = some (.map K E)) (hK : P.underlying K = some d) (hd : plainKey d = true)
    (hf : ∀ p ∈ kv, Instr.sameNow d k p.1 = some (f p.1)) (hno : ∀ p ∈ kv, f p.1 = false) :
    ∃ W, (Instr.mapUpdate T (.map (some b)) k v).run P w = .ok () W ∧ MapAt W b (kv ++ [(k, v)]) ∧ ItTurns (fun x => x = b) w W ∧ W.heap.size = w.heap.size := by
  obtain ⟨es, clock, hb, hkv, hborn⟩ := h
  have hmem : ∀ e ∈ es.toList, Instr.sameNow d k e.key = some (f e.key) := fun e he => hf _ (mem_kv hkv he)
  have hno' : ∀ e ∈ es.toList, f e.key = false := fun e he => hno _ (mem_kv hkv he)
  have hlt := (Array.getElem?_eq_some_iff.1 hb).1
  refine ⟨w.putObj b (.map (es.push { key := k, val := v, born := clock }) (clock + 1)), ?_, ⟨_, _, World.putObj_heap_same hlt, by simp [hkv], ?_⟩, ⟨rfl, rfl, rfl, by simp, fun i o ho hne => (World.putObj_heap_other hne).trans ho⟩, by simp⟩
  · unfold Instr.mapUpdate
    simp only [Sem.run_bind, run_underlying hT, Result.andThen, getObj, Sem.run, hb, Sem.run_pure, run_checkKey _ _ hK hd, Instr.findKey, run_underlying hK]
    rw [findNow_none k f es.toList 0 hmem hno']
    simp [Sem.run_pure, setObj, Sem.run, hb, World.putObj]
  · intro e he
    simp only [Array.toList_push, List.mem_append, List.mem_singleton] at he
    rcases he with he | rfl
    · have := hborn e he; omega
    · simp
end
end Go.Proofs.YtckfgkmfeklcmaaGreatDoor

/- Going through a text's runes. -/
namespace Go.Proofs.YtckfgkmfeklcmaaGreatDoor
open Go.RowKit Go.Shelf
attribute [local go_sem] Oper.semAt_some

theorem wide_call {n : Nat} {P : Program} {f : FuncId} {args : Array Value} {w : World} {R : Ending → World → Prop} (h : CallsIn Fence.wide (n - 1) P f args w R) :
    Fence.wide.fn f ∧ (Fence.wide.depth.isSome = true → 1 ≤ n) ∧ CallsIn Fence.wide (n - 1) P f args w R := ⟨trivial, fun h => by simp [Fence.wide] at h, h⟩
theorem round_call {n l : Nat} {P : Program} {f : FuncId} {args : Array Value} {w : World} {R : Ending → World → Prop} (h : Calls P f args w R) :
    (Fence.wide.inRound l).fn f ∧ ((Fence.wide.inRound l).depth.isSome = true → 1 ≤ n) ∧ CallsIn (Fence.wide.inRound l) (n - 1) P f args w R := ⟨trivial, fun h => by simp [Fence.wide, Fence.inRound] at h, CallsIn.inRound l (callsIn_wide.2 h)⟩
theorem noGoto_normal {Q : Exit → Act → World → Prop} {a : Act} {w : World} : Exit.noGoto Q .normal a w = Q .normal a w := rfl
/-- how long the text in a block is -/
def leftAt (W : World) (x : Nat) : Nat := match W.cell? ⟨x, 0, none⟩ with | some (.string s) => s.size | _ => 0
theorem leftAt_eq {W : World} {x : Nat} {l : List UInt8} {t : TypeId} (h : W.heap[x]? = some (.cells #[.string (mk l)] t (0, 0))) : leftAt W x = l.length := by
  unfold leftAt; rw [cell_of_one h]; exact mk_size l
theorem runesF_fuel (k : Nat) : ∀ k' s, s.length ≤ k → s.length ≤ k' → Pl.runesF k s = Pl.runesF k' s := by
  induction k with
  | zero =>
    intro k' s h _
    have : s = [] := List.length_eq_zero_iff.1 (by omega)
    subst this
    cases k' <;> rfl
  | succ k ih =>
    intro k' s h h'
    cases k' with
    | zero => have : s = [] := List.length_eq_zero_iff.1 (by omega); subst this; rfl
    | succ k' =>
      simp only [Pl.runesF]
      cases hd : Pl.dec s with
      | none => rfl
      | some p =>
        obtain ⟨r, n⟩ := p
        obtain ⟨_, hn, u, hu⟩ := Pl.dec_some hd
        have h1 := Pl.enc_pos r
        simp only
        rw [ih k' (s.drop n) (by simp; omega) (by simp; omega)]
theorem runes_yes {s : Pl.Bytes} {r n : Nat} (h : Pl.dec s = some (r, n)) : Pl.runes s = (r :: (Pl.runes (s.drop n)).1, (Pl.runes (s.drop n)).2) := by
  obtain ⟨_, hn, u, hu⟩ := Pl.dec_some h
  have h1 := Pl.enc_pos r
  have h2 : s.length ≠ 0 := by rw [hu, List.length_append]; omega
  unfold Pl.runes
  obtain ⟨k, hk⟩ : ∃ k, s.length = k + 1 := ⟨s.length - 1, by omega⟩
  rw [hk]
  simp only [Pl.runesF, h]
  rw [runesF_fuel k (s.drop n).length (s.drop n) (by simp; omega) (Nat.le_refl _)]
theorem runes_no {s : Pl.Bytes} (h : Pl.dec s = none) : Pl.runes s = ([], s) := by
  unfold Pl.runes
  cases hk : s.length with
  | zero => rfl
  | succ k => simp only [Pl.runesF, h]
theorem dec_bounds {s : Pl.Bytes} {r n : Nat} (h : Pl.dec s = some (r, n)) : 0 < n ∧ n ≤ s.length ∧ r ≤ 1114111 ∧ n ≤ 4 := by
  obtain ⟨hr, hn, u, hu⟩ := Pl.dec_some h
  have h1 := Pl.enc_pos r
  have h2 := Pl.enc_le r
  refine ⟨by omega, by rw [hu]; simp; omega, by simp [Pl.isRune] at hr; omega, by omega⟩
theorem decE_none {s : Pl.Bytes} (h : Pl.dec s = none) : decR s = 0 ∧ decN s = 0 ∧ decE s ≠ 0 := by
  refine ⟨by simp [decR, h], by simp [decN, h], ?_⟩
  unfold decE
  split
  · decide
  · rw [h]; decide
theorem decE_some {s : Pl.Bytes} {r n : Nat} (h : Pl.dec s = some (r, n)) : decR s = r ∧ decN s = n ∧ decE s = 0 := by
  refine ⟨by simp [decR, h], by simp [decN, h], ?_⟩
  unfold decE
  split
  · rename_i e; subst e; cases h
  · rw [h]

set_option maxRecDepth 100000 in
set_option maxHeartbeats 1600000 in
theorem uruns_seq (p x : Nat) (s : List UInt8) (w : World) (hpx : p ≠ x) (hp : w.heap[p]? = some (.cells #[.pointer (some ⟨x, 0, none⟩)] 224 (0, 0))) (hx : w.heap[x]? = some (.cells #[.string (mk s)] 228 (0, 0))) (hs : s.length ≤ 1000000000000000) :
    SeqC (α := Nat) Tryz.prog 164 #[.pointer (some ⟨p, 0, none⟩)] (fun r => #[.int .i64 (r : Int)]) (fun k => k = x) (fun k => k = p ∨ k = x) (fun pre r => pre.length < s.length ∧ r ≤ 1114111)
      (fun xs W => xs = (Pl.runes s).1 ∧ W.heap[x]? = some (.cells #[.string (mk (Pl.runes s).2)] 228 (0, 0))) (fun _ _ => True) w := by
  intro n l J Jx W hJ hJx hY h0 hK
  have hp1 := (hK.same p (.inl rfl)).trans hp
  have hx1 := (hK.same x (.inr rfl)).trans hx
  have HJ := Lib.hid hJ
  have HY := Lib.hid hY
  clear hp hx hK hJ hJx hY
  refine callsIn_of_wp Tryz.func164 rfl trivial ?_ rfl
  simp only [Tryz.ntmps164, List.size_toArray, List.length_cons, List.length_nil, Nat.reduceAdd, Nat.reduceSub, Array.replicate_succ, Array.replicate_zero, List.push_toArray, List.append_toArray, List.nil_append, List.cons_append]
  refine wpIn_scope_straight ?_
  gi_wp2_with (apply wpIn_label)
  gi_loopw [3, 4, 5] (fun _ _ _ wr => ∃ (pre : List Nat) (rest : List UInt8), wr.heap[p]? = some (.cells #[.pointer (some ⟨x, 0, none⟩)] 224 (0, 0)) ∧ wr.heap[x]? = some (.cells #[.string (mk rest)] 228 (0, 0)) ∧
      Pl.runes s = (pre ++ (Pl.runes rest).1, (Pl.runes rest).2) ∧ pre.length + rest.length ≤ s.length ∧ J pre wr) (fun _ _ _ wr => leftAt wr x)
  case atStart => exact ⟨[], s, hp1, hx1, rfl, by simp, h0⟩
  case round =>
    obtain ⟨pre, rest, hp2, hx2, hr, hlen, hj⟩ := hrel
    have HR := Lib.hid hr
    have HP := Lib.hid hp2
    have HX := Lib.hid hx2
    have HJ1 := Lib.hid hj
    have cp := cell_of_one hp2
    have cx := cell_of_one hx2
    clear hr hp2 hx2 hj hp1 hx1 h0
    gi_wp2_with fail
    refine wide_call ((callsIn_wide.2 (decode_any rest _ (by omega))).mono ?_)
    rintro e w1 ⟨rfl, hu1⟩
    have hp3 := (hu1.block p (lt_of_block HP.out)).trans HP.out
    have hx3 := (hu1.block x (lt_of_block HX.out)).trans HX.out
    have hj3 := HJ.out _ _ _ HJ1.out (ItTurns.of_up hu1)
    clear cp cx hu1
    cases hd : Pl.dec rest with
    | none =>
      obtain ⟨z1, z2, z3⟩ := decE_none hd
      have hz : (decE rest != 0) = true := by simpa using z3
      have HP3 := Lib.hid hp3
      have HX3 := Lib.hid hx3
      have HJ3 := Lib.hid hj3
      have HD := Lib.hid hd
      clear hp3 hx3 hj3 z1 z2 z3 hd
      gi_wp2
      rw [noGoto_normal]
      refine bodyPost_end (results_none rfl _ _ _) rfl ?_
      refine ⟨⟨_, rfl⟩, .inl ⟨pre, ⟨?_, ?_⟩, HJ3.out⟩⟩
      · rw [HR.out, runes_no HD.out]; simp
      · rw [HR.out, runes_no HD.out]; exact HX3.out
    | some q =>
      obtain ⟨r, m⟩ := q
      obtain ⟨z1, z2, z3⟩ := decE_some hd
      obtain ⟨b1, b2, b3, b4⟩ := dec_bounds hd
      rw [z1, z2, z3]
      have HP3 := Lib.hid hp3
      have HX3 := Lib.hid hx3
      have HJ3 := Lib.hid hj3
      have HD := Lib.hid hd
      have cp := cell_of_one hp3
      have cx := cell_of_one hx3
      have fx := free_of_one hx3
      have hsz := mk_size rest
      clear hp3 hx3 hj3 z1 z2 z3 hd
      have hex : (mk rest).extract m rest.length = mk (rest.drop m) := by rw [mk_cut, List.take_length]
      gi_wp2_with fail
      gi_region
      obtain ⟨w2, hw2⟩ : ∃ w2, w2 = (w1.setCell ⟨x, 0, none⟩ (.string (mk (rest.drop m)))).drew := ⟨_, rfl⟩
      have hx5 : w2.heap[x]? = some (.cells #[.string (mk (rest.drop m))] 228 (0, 0)) := by rw [hw2]; exact one_setCell HX3.out
      have hp5 : w2.heap[p]? = some (.cells #[.pointer (some ⟨x, 0, none⟩)] 224 (0, 0)) := by rw [hw2]; exact (Below.heap_setCell w1 ⟨x, 0, none⟩ _ p hpx).trans HP3.out
      have hit : ItTurns (fun k => k = x) w1 w2 := by rw [hw2]; exact (ItTurns.set (Xs := fun k => k = x) (ItTurns.refl _ w1) ⟨x, 0, none⟩ _ rfl).drew
      obtain ⟨fn, tmps, assign, body, hy, hR⟩ := HY.out pre r w2 (HJ.out _ _ _ HJ3.out hit) ⟨by omega, by omega⟩
      have HX5 := Lib.hid hx5
      have HP5 := Lib.hid hp5
      have HRR := Lib.hid hR
      clear hx5 hp5 hit hR cp cx fx
      rw [← hw2]
      clear hw2 hex
      gi_wp2
      refine ⟨fun h => by simp [Fence.wide] at h, HRR.out.mono ?_⟩
      rintro e W3 (⟨rfl, hj6, hk6⟩ | ⟨rfl, hj6, hk6⟩)
      · have HX6 := Lib.hid ((hk6.same x (.inr rfl)).trans HX5.out)
        have HP6 := Lib.hid ((hk6.same p (.inl rfl)).trans HP5.out)
        have HJ6 := Lib.hid hj6
        clear hj6 hk6 hy
        gi_wp2
        go_roundw
        case rel =>
          refine ⟨pre ++ [r], rest.drop m, HP6.out, HX6.out, ?_, by simp; omega, HJ6.out⟩
          rw [HR.out, runes_yes HD.out]; simp
        case measure => rw [leftAt_eq HX6.out, leftAt_eq HX.out]; simp; omega
      · have HJ6 := Lib.hid hj6
        clear hj6 hk6 hy
        gi_wp2
        rw [noGoto_normal]
        refine bodyPost_end (results_none rfl _ _ _) rfl ?_
        exact ⟨⟨_, rfl⟩, .inr ⟨_, trivial, HJ6.out⟩⟩
end Go.Proofs.YtckfgkmfeklcmaaGreatDoor

namespace Go.Proofs.YtckfgkmfeklcmaaGreatDoor
open Go.RowKit Go.Shelf
attribute [local go_sem] Oper.semAt_some

theorem Tryz.info3 : (Tryz.prog.info? 3).map (fun i => (i.zero, i.size, i.bytes)) = some (some (.int .i64 0), 1, 8) := by kernel_rfl
def vi (l : List Nat) : List Value := l.map fun (r : Nat) => .int .i64 (r : Int)
theorem vi_app (a b : List Nat) : vi (a ++ b) = vi a ++ vi b := by simp [vi]
theorem vi_len (a : List Nat) : (vi a).length = a.length := by simp [vi]
/-- 'l = append(l, x)', l in a box of its own, its row from 'base' on -/
theorem box_append {W w2 : World} {bl base e size n n' : Nat} {t : TypeId} {v v' : Value} {xs ys : List Value} {o : Obj} (hl : W.heap[bl]? = some (.cells #[v] t (0, 0))) (hrow : W.ownsRow base e size v n xs) (hb : bl < base) (hbase : base ≤ W.heap.size)
    (hown2 : w2.ownsRow base e size v' n' ys) (hg2 : (W.alloc o).grownBy w2 v.ownBlock) :
    KeepsOthers W (w2.setCell ⟨bl, 0, none⟩ v') ∧ (∀ k, k < base → k ≠ bl → (w2.setCell ⟨bl, 0, none⟩ v').heap[k]? = W.heap[k]?) ∧ (w2.setCell ⟨bl, 0, none⟩ v').heap[bl]? = some (.cells #[v'] t (0, 0)) ∧
      (w2.setCell ⟨bl, 0, none⟩ v').ownsRow base e size v' n' ys ∧ Below bl W (w2.setCell ⟨bl, 0, none⟩ v') := by
  have hlt := lt_of_block hl
  have hnb : ∀ k, k < base → some k ≠ v.ownBlock := fun k hk e => by have := (hrow.lt k e.symm).1; omega
  have hsame : ∀ k, k < base → w2.heap[k]? = W.heap[k]? := fun k hk => (hg2.block k (by simp; omega) (hnb k hk)).trans (Below.heap_alloc _ _ _ (by omega))
  have hl2 : w2.heap[bl]? = some (.cells #[v] t (0, 0)) := (hsame bl hb).trans hl
  refine ⟨?_, fun k hk hne => (Below.heap_setCell w2 ⟨bl, 0, none⟩ v' k hne).trans (hsame k hk), one_setCell hl2, ownsRow_setCell_other hown2 (fun e => by have := (hown2.lt _ e).1; simp at this; omega) v', ?_⟩
  · refine ((KeepsOthers.alloc W o).trans (KeepsOthers.of_grownBy hg2 fun j q ej hj => ?_)).trans (KeepsOthers.setCell _ _ _)
    rcases (hrow.alloc o).2 with ⟨rfl, _⟩ | ⟨g, cap, cur, rfl, _, hgb, _⟩
    · simp [Value.ownBlock] at ej
    · simp [Value.ownBlock] at ej
      subst ej
      rw [hgb] at hj; cases hj; rfl
  · have h1 : Below bl W w2 := (((Below.refl bl W).alloc (by omega) o).grown hg2 (by simp; omega) (fun k hk => by have := (hrow.lt k hk).1; omega))
    exact h1.setCell (p := ⟨bl, 0, none⟩) (Nat.le_refl _) _
theorem _root_.Go.World.ownsRow.base {w : World} {b b' e size n : Nat} {v : Value} {xs : List Value} (h : w.ownsRow b e size v n xs) (hb : b' ≤ b) : w.ownsRow b' e size v n xs := by
  refine ⟨h.1, ?_⟩
  rcases h.2 with h0 | ⟨g, cap, cur, hv, hg, rest⟩
  · exact .inl h0
  · exact .inr ⟨g, cap, cur, hv, by omega, rest⟩
theorem Tryz.enters_uruns (args : Array Value) (w : World) : (callFunc 164 args).run Tryz.prog w = .ok (.enter 164 args) w := enters_of Tryz.func164 (by kernel_rfl) rfl args w

set_option maxHeartbeats 400000 in
theorem uruns_make (x : Nat) (w : World) : Calls Tryz.prog 142 #[.pointer (some ⟨x, 0, none⟩)] w fun e w' =>
    e = .returned (.func (.func 164) #[] #[.pointer (some ⟨w.heap.size, 0, none⟩)]) ∧ w' = w.alloc (.cells #[.pointer (some ⟨x, 0, none⟩)] 224) := by
  have hmf := @run_makeFunc Tryz.prog
  go_enter Tryz.func142, Tryz.ntmps142
  go_wp2
  go_ret
  exact ⟨rfl, rfl⟩

set_option maxRecDepth 100000 in
set_option maxHeartbeats 1600000 in
theorem all_any (s : List UInt8) (w : World) (hs : s.length ≤ 1000000000000) :
    Calls Tryz.prog 112 #[.string (mk s)] w fun e w' => ∃ v, e = .returned (.tuple #[v, .int .i64 ((Pl.runes s).2.length : Int)]) ∧ w'.ownsRow w.heap.size 3 1 v (Pl.runes s).1.length (vi (Pl.runes s).1) ∧ Up w w' := by
  refine (callsIn_wide (n := 3)).1 ?_
  obtain ⟨i0, hi, hz0, hz1, hz2⟩ := info_parts Tryz.info3
  refine callsIn_of_wp_marks Tryz.func112 rfl trivial ?_ rfl
  simp only [Tryz.ntmps112, List.size_toArray, List.length_cons, List.length_nil, Nat.reduceAdd, Nat.reduceSub, Array.replicate_succ, Array.replicate_zero, List.push_toArray, List.append_toArray, List.nil_append, List.cons_append]
  gi_wp2_with fail
  refine ⟨trivial, (callsIn_wide.2 (uruns_make _ _)).mono ?_⟩
  rintro e w1 ⟨rfl, hw1⟩
  have hsz : w1.heap.size = w.heap.size + 3 := by rw [hw1]; simp
  have hx : w1.heap[w.heap.size]? = some (.cells #[.string (mk s)] 228 (0, 0)) := by
    rw [hw1, Below.heap_alloc _ _ _ (by simp <;> omega), Below.heap_alloc _ _ _ (by simp)]; exact heap_new rfl
  have hl : w1.heap[w.heap.size + 1]? = some (.cells #[.slice none 0 0] 147 (0, 0)) := by
    rw [hw1, Below.heap_alloc _ _ _ (by simp)]; exact heap_new (by simp)
  have hp : w1.heap[w.heap.size + 2]? = some (.cells #[.pointer (some ⟨w.heap.size, 0, none⟩)] 224 (0, 0)) := by
    rw [hw1]; exact heap_new (by simp)
  have hu : Up w w1 := by rw [hw1]; exact (((Up.self w).alloc _).alloc _).alloc _
  rw [show ((w.alloc (.cells #[.string (mk s)] 228)).alloc (.cells #[.slice none 0 0] 147)).heap.size = w.heap.size + 2 from by simp]
  have HX := Lib.hid hx
  have HL := Lib.hid hl
  have HP := Lib.hid hp
  have HU := Lib.hid hu
  have HSZ := Lib.hid hsz
  clear hx hl hp hu hsz hw1
  gi_wp2_with fail
  refine wpIn_rangeC (gf := 164) (lb := #[.pointer (some ⟨w.heap.size + 2, 0, none⟩)]) rfl Tryz.enters_uruns (uruns_seq (w.heap.size + 2) w.heap.size s w1 (by omega) HP.out HX.out (by omega)) (by have := HSZ.out; intro k hk; omega)
    ?hS (fun _ _ _ _ _ => trivial) (fun _ => rfl)
    (fun pre W => (∃ v, W.heap[w.heap.size + 1]? = some (.cells #[v] 147 (0, 0)) ∧ W.ownsRow (w.heap.size + 3) 3 1 v pre.length (vi pre)) ∧ Up w W)
    (fun _ _ _ => False) ?hI (fun _ _ _ _ h _ => h) ⟨⟨_, HL.out, World.ownsRow_nil _ _ _ _⟩, HU.out⟩
    (fun x => { tmps := #[Value.string (mk s), undef, Value.slice none 0 0, Value.int IntKind.i64 0, Value.pointer (some ⟨w.heap.size, 0, none⟩), Value.pointer (some ⟨w.heap.size + 1, 0, none⟩), Value.int IntKind.i64 (x : Int), Value.string (mk s),
      Value.agg #[Value.string (mk s)], Value.agg #[Value.string (mk s)], Value.pointer (some ⟨w.heap.size, 0, none⟩), Value.pointer (some ⟨w.heap.size, 0, none⟩), Value.func (Fn.func 164) #[] #[Value.pointer (some ⟨w.heap.size + 2, 0, none⟩)],
      Value.int IntKind.i64 (x : Int), undef, undef, undef, undef, undef, undef, undef, undef, undef, undef, undef], defers := [] }) (by have := HSZ.out; intro k hk; omega) ?assign ?body ?done ?stop
  case hS =>
    rintro xs A B ⟨h1, h2⟩ ht
    exact ⟨h1, ht.cells h2 (fun e => e)⟩
  case hI =>
    rintro pre A B ⟨⟨v, h1, h2⟩, h3⟩ ht
    refine ⟨⟨v, ht.cells h1 (by omega), ht.row h2 (by intro k hk; omega)⟩, ht.below h3 (by have := HSZ.out; omega) (Nat.le_refl _) (by intro k hk; omega)⟩
  case assign =>
    intro l x W K hK
    gi_wp2
    exact hK
  case body =>
    rintro l pre r W ⟨⟨v, hl, hrow⟩, hup⟩ ⟨hlen, hr⟩ hsz
    have hsz' := HSZ.out
    have cl := cell_of_one hl
    have fl := free_of_one hl
    have HL1 := Lib.hid hl
    have HROW := Lib.hid hrow
    have HUP := Lib.hid hup
    have HW := Lib.hid hsz
    clear hl hrow hup hsz hsz'
    gi_wp2_with (gi_at_builtin; go_must (refine wpListIn_append_own _ rfl _ _ 147 rfl (w.heap.size + 3) 3 i0 (.int .i64 0) 1 8 Tryz.underlying147 hi hz0 hz1 hz2 rfl (by decide) _ _ _ rfl (HROW.out.alloc _) ⟨W.heap.size, 0, none⟩ 1 1 [.int .i64 (r : Int)] rfl rfl (cell_one_new _ _ _) (by simp [Value.oneCell']) (by unfold maxLen; omega) (by omega) (by have := HW.out; have := HSZ.out; simp; omega) ?_); intro v2 w2 hown2 hg2 _; obtain ⟨g2, cap2, rfl⟩ := ownsRow_succ hown2; have hlt := lt_of_block HL1.out; have hne : some (w.heap.size + 1) ≠ v.ownBlock := (by intro e; have := (HROW.out.lt _ e.symm).1; omega); have hl2 : w2.heap[w.heap.size + 1]? = some (.cells #[v] 147 (0, 0)) := (hg2.block _ (by simp; omega) hne).trans ((Below.heap_alloc _ _ _ hlt).trans HL1.out); have cl := cell_of_one hl2; have fl := free_of_one hl2; have HO2 := Lib.hid hown2; have HG2 := Lib.hid hg2; have HL2 := Lib.hid hl2; clear hown2 hg2 hl2 hlt hne)
    obtain ⟨q1, q2, q3, q4, q5⟩ := box_append HL1.out HROW.out (by omega) (by have := HW.out; have := HSZ.out; omega) HO2.out HG2.out
    refine ⟨q1, ⟨q1.size, fun k hk => q2 k (by omega) (by omega)⟩, ⟨_, q3, ?_⟩, ?_⟩
    · rw [List.length_append, vi_app]; exact q4
    · exact Below.trans HUP.out (q5.mono (by omega))
  case done =>
    rintro D xs W ⟨rfl, hx⟩ ⟨⟨v, hl, hrow⟩, hup⟩ hK hD
    have cl := cell_of_one hl
    have cx := cell_of_one hx
    have HROW := Lib.hid hrow
    have HUP := Lib.hid hup
    have HK := Lib.hid hK
    have hsz := mk_size (Pl.runes s).2
    clear hl hx hrow hup hK
    gi_wp2_with fail
    gi_region
    gi_wp2_with fail
    refine ⟨by simp, .inl ⟨_, _, rfl, run_takeDeferred (w := W.drew) HK.out, ?_⟩⟩
    refine ⟨_, results_tmp2 rfl _ _ _, v, rfl, ?_, ?_⟩
    · exact (ownsRow_putObj (W := W.drew) HROW.out _ HK.out rfl).base (by omega)
    · exact Below.trans (HUP.out.drew) (belowK_b (w := w1) (n₀ := w.heap.size) (by have := HSZ.out; omega) W.drew D _ _ hD HK.out rfl rfl)
  case stop =>
    rintro D c pre W _ h _ _
    exact h.elim
end Go.Proofs.YtckfgkmfeklcmaaGreatDoor

/- Whether all runes of a text are such. -/
namespace Go.Proofs.YtckfgkmfeklcmaaGreatDoor
open Go.RowKit Go.Shelf

/-- a function of the program that says of an int yes or no -/
def Says (K : Nat) (g : Int → Bool) : Prop :=
  (∀ args w, (callFunc K args).run Tryz.prog w = .ok (.enter K args) w) ∧ ∀ r w, Calls Tryz.prog K #[.int .i64 r] w fun e w' => e = .returned (.bool (g r)) ∧ Up w w'

set_option maxHeartbeats 400000 in
theorem areAll1_any (K : Nat) (g : Int → Bool) (hK : Says K g) (r : Int) (b : Nat) (w : World) (hb : w.cell? ⟨b, 0, none⟩ = some (.func (.func K) #[] #[])) :
    Calls Tryz.prog 113 #[.int .i64 r, .pointer (some ⟨b, 0, none⟩)] w fun e w' => e = .returned (.bool (!g r)) ∧ Up w w' := by
  have hent := hK.1
  have HC := Lib.hid (hK.2 r w)
  clear hK
  have hnot : ∀ (x : Bool) (w : World), (Op.unary .not (.bool x)).run Tryz.prog w = .ok (.bool (!x)) w := fun _ _ => rfl
  go_enter Tryz.func113, Tryz.ntmps113
  go_wp2_with fail
  refine HC.out.mono ?_
  rintro e w1 ⟨rfl, hu1⟩
  go_wp2
  go_ret
  exact ⟨rfl, hu1⟩

/-- a slice whose cells read as numbers: nil, or a row's head -/
def IntsAt (w : World) (v : Value) (l : List Nat) : Prop := ∃ base n, w.ownsRow base 3 1 v n (vi l)
theorem IntsAt.up {w w' : World} {v : Value} {l : List Nat} (h : IntsAt w v l) (u : Up w w') : IntsAt w' v l := by
  obtain ⟨base, n, h1, h2⟩ := h
  refine ⟨base, n, h1, ?_⟩
  rcases h2 with h0 | ⟨g, cap, cur, hv, hb, hg, rest⟩
  · exact .inl h0
  · exact .inr ⟨g, cap, cur, hv, hb, (u.block g (lt_of_block hg)).trans hg, rest⟩
theorem IntsAt.shape {w : World} {v : Value} {l : List Nat} (h : IntsAt w v l) : ∃ a c, v = .slice a l.length c ∧ ∀ k, k < l.length → ∃ g, a = some ⟨g, 0, none⟩ ∧ w.cell? ⟨g, k, none⟩ = some (.int .i64 (l.getD k 0 : Nat)) := by
  obtain ⟨base, n, h⟩ := h
  have h1 := h.1
  rw [vi_len, Nat.mul_one] at h1
  have h' := h
  rcases h.2 with ⟨rfl, h0⟩ | ⟨g, cap, cur, rfl, hb, hg, rest⟩
  · have : l.length = 0 := by omega
    exact ⟨none, 0, by rw [this], fun k hk => by omega⟩
  · refine ⟨some ⟨g, 0, none⟩, cap, by rw [h1], fun k hk => ⟨g, rfl, ?_⟩⟩
    have hx : (vi l)[k]? = some (.int .i64 (l.getD k 0 : Nat)) := by simp [vi, List.getD, hk]
    have := h'.cells (g := g) rfl k _ hx
    rw [← this]
    congr 1
    unfold Addr.add
    split <;> simp_all

def idxNot (g : Int → Bool) (l : List Nat) : Int := match l.findIdx? (fun (r : Nat) => !g (r : Int)) with | some i => i | none => -1
theorem idxNot_at {g : Int → Bool} {l : List Nat} {k : Nat} (hlt : k < l.length) (hno : ∀ j, j < k → g (l.getD j 0 : Nat) = true) (hy : g (l.getD k 0 : Nat) = false) : idxNot g l = k := by
  have : l.findIdx? (fun (r : Nat) => !g (r : Int)) = some k := by
    rw [List.findIdx?_eq_some_iff_getElem]
    refine ⟨hlt, by simpa [List.getD, hlt] using hy, fun j hj => ?_⟩
    have := hno j hj
    simpa [List.getD, show j < l.length by omega] using this
  simp [idxNot, this]
theorem idxNot_none {g : Int → Bool} {l : List Nat} (hno : ∀ j, j < l.length → g (l.getD j 0 : Nat) = true) : idxNot g l = -1 := by
  have : l.findIdx? (fun (r : Nat) => !g (r : Int)) = none := by
    rw [List.findIdx?_eq_none_iff]
    intro x hx
    obtain ⟨j, hj, rfl⟩ := List.getElem_of_mem hx
    have := hno j hj
    simpa [List.getD, hj] using this
  simp [idxNot, this]
theorem idxNot_all (g : Int → Bool) (l : List Nat) : decide (0 ≤ idxNot g l) = !l.all (fun (r : Nat) => g (r : Int)) := by
  unfold idxNot
  cases h : l.findIdx? (fun (r : Nat) => !g (r : Int)) with
  | none =>
    rw [List.findIdx?_eq_none_iff] at h
    have : l.all (fun (r : Nat) => g (r : Int)) = true := by rw [List.all_eq_true]; intro x hx; simpa using h x hx
    rw [this]; rfl
  | some i =>
    rw [List.findIdx?_eq_some_iff_getElem] at h
    obtain ⟨hi, hy, _⟩ := h
    have : l.all (fun (r : Nat) => g (r : Int)) = false := by rw [List.all_eq_false]; exact ⟨_, List.getElem_mem hi, by simpa using hy⟩
    rw [this]; simp

set_option maxRecDepth 100000 in
set_option maxHeartbeats 400000 in
theorem intIndex_any (K : Nat) (g : Int → Bool) (hK : Says K g) (v : Value) (l : List Nat) (b : Nat) (w : World) (hb : w.cell? ⟨b, 0, none⟩ = some (.func (.func K) #[] #[])) (hn : l.length ≤ 1000000000000) (hl : IntsAt w v l) :
    Calls Tryz.prog 143 #[v, .func (.func 113) #[] #[.pointer (some ⟨b, 0, none⟩)]] w fun e w' => e = .returned (.int .i64 (idxNot g l)) ∧ Up w w' := by
  obtain ⟨a, c, rfl, hc⟩ := hl.shape
  have HC := Lib.hid hc
  have HK := Lib.hid hK
  have hbl := lt_of_cell hb
  clear hc hl hK
  go_enter Tryz.func143, Tryz.ntmps143
  go_wp2
  go_loopw [8] (fun i wr => ∃ k : Nat, k ≤ l.length ∧ i = .int .i64 k ∧ Up w wr ∧ ∀ j, j < k → g (l.getD j 0 : Nat) = true) (fun i _ => l.length - (intOf i).toNat)
  case atStart => exact ⟨0, Nat.zero_le _, rfl, Up.self w, fun j h => absurd h (Nat.not_lt_zero _)⟩
  case round =>
    obtain ⟨k, hk, rfl, hup, hno⟩ := hrel
    have HNO := Lib.hid hno
    have HUP := Lib.hid hup
    clear hno
    by_cases hlt : k < l.length
    · obtain ⟨gb, rfl, hce⟩ := HC.out k hlt
      have e1 := (hup.cell (p := ⟨gb, k, none⟩) (lt_of_cell hce)).trans hce
      have HB := Lib.hid ((hup.cell (p := ⟨b, 0, none⟩) hbl).trans hb)
      clear hce hup hb
      obtain ⟨x, hxx⟩ : ∃ x, x = l.getD k 0 := ⟨_, rfl⟩
      rw [← hxx] at e1
      have HX := Lib.hid hxx
      clear hxx
      cases hp : g (x : Int)
      all_goals
        have HP := Lib.hid hp
        clear hp
        go_wp2_with fail
        refine (areAll1_any K g HK.out x b _ HB.out).mono ?_
        rintro e w1 ⟨rfl, hu1⟩
        rw [HP.out]
        have HU1 := Lib.hid hu1
        clear e1 hu1
        go_wp2
      · go_ret
        exact ⟨ret_i64 (idxNot_at hlt HNO.out (by rw [← HX.out]; exact HP.out)).symm, HUP.out.trans HU1.out⟩
      · go_roundw
        case rel =>
          refine ⟨k + 1, by omega, by go_num, HUP.out.trans HU1.out, fun j hj => ?_⟩
          by_cases e : j = k
          · rw [e, ← HX.out]; exact HP.out
          · exact HNO.out j (by omega)
        case measure => simp [intOf]; omega
    · clear hb
      go_wp2
      go_ret
      have : k = l.length := by omega
      subst this
      exact ⟨ret_i64 (idxNot_none HNO.out).symm, hup⟩

set_option maxHeartbeats 400000 in
theorem intContains_any (K : Nat) (g : Int → Bool) (hK : Says K g) (v : Value) (l : List Nat) (b : Nat) (w : World) (hb : w.cell? ⟨b, 0, none⟩ = some (.func (.func K) #[] #[])) (hn : l.length ≤ 1000000000000) (hl : IntsAt w v l) :
    Calls Tryz.prog 114 #[v, .func (.func 113) #[] #[.pointer (some ⟨b, 0, none⟩)]] w fun e w' => e = .returned (.bool (!l.all (fun (r : Nat) => g (r : Int)))) ∧ Up w w' := by
  have HI := Lib.hid (intIndex_any K g hK v l b w hb hn hl)
  clear hK hb hl
  go_enter Tryz.func114, Tryz.ntmps114
  go_wp2_with fail
  refine HI.out.mono ?_
  rintro e w1 ⟨rfl, hu1⟩
  go_wp2
  go_ret
  exact ⟨by rw [← idxNot_all]; rfl, hu1⟩

def areAllB (g : Int → Bool) (s : List UInt8) : Bool := (Pl.runes s).2.isEmpty && (Pl.runes s).1.all (fun (r : Nat) => g (r : Int))
theorem runes_len (k : Nat) : ∀ s, (Pl.runesF k s).1.length ≤ k := by
  induction k with
  | zero => intro s; simp [Pl.runesF]
  | succ k ih =>
    intro s
    unfold Pl.runesF
    cases Pl.dec s with
    | none => simp
    | some p => obtain ⟨r, n⟩ := p; have := ih (s.drop n); simp; exact this
set_option maxRecDepth 100000 in
set_option maxHeartbeats 800000 in
theorem areAll_any (K : Nat) (g : Int → Bool) (hK : Says K g) (s : List UInt8) (w : World) (hs : s.length ≤ 1000000000000) :
    Calls Tryz.prog 91 #[.string (mk s), .func (.func K) #[] #[]] w fun e w' => e = .returned (.bool (areAllB g s)) ∧ Up w w' := by
  have hmf := @run_makeFunc Tryz.prog
  have hnot : ∀ (x : Bool) (w : World), (Op.unary .not (.bool x)).run Tryz.prog w = .ok (.bool (!x)) w := fun _ _ => rfl
  have HK := Lib.hid hK
  clear hK
  have hlen := runes_len s.length s
  have HLEN := Lib.hid (show (Pl.runes s).1.length ≤ s.length from hlen)
  clear hlen
  go_enter Tryz.func91, Tryz.ntmps91
  go_wp2_with fail
  refine (all_any s _ hs).mono ?_
  rintro e w1 ⟨v, rfl, hrow, hu⟩
  have HL := Lib.hid (show IntsAt w1 v (Pl.runes s).1 from ⟨_, _, hrow⟩)
  have HB := Lib.hid ((hu.cell (p := ⟨w.heap.size, 0, none⟩) (by simp)).trans (World.cell?_alloc_at _ _ _ _ rfl))
  have HU := Lib.hid (((Up.self w).alloc _).trans hu)
  clear hrow hu
  have HA := Lib.hid (show areAllB g s = ((Pl.runes s).2.isEmpty && (Pl.runes s).1.all (fun (r : Nat) => g (r : Int))) from rfl)
  obtain ⟨n, hn⟩ : ∃ n, n = (Pl.runes s).2.length := ⟨_, rfl⟩
  rw [← hn]
  by_cases hz : n = 0
  · have he : (Pl.runes s).2.isEmpty = true := List.isEmpty_iff.2 (List.length_eq_zero_iff.1 (by omega))
    have HE := Lib.hid he
    have ht : ((n : Int) == 0) = true := by subst hz; rfl
    clear hn he
    go_wp2_with fail
    refine (intContains_any K g HK.out v (Pl.runes s).1 w.heap.size _ HB.out (by have := HLEN.out; omega) HL.out).mono ?_
    rintro e w2 ⟨rfl, hu2⟩
    have HU2 := Lib.hid hu2
    clear hu2
    go_wp2
    go_ret
    exact ⟨by rw [HA.out, HE.out]; simp, HU.out.trans HU2.out⟩
  · have he : (Pl.runes s).2.isEmpty = false := by rw [Bool.eq_false_iff]; intro h; exact hz (by rw [hn, List.isEmpty_iff.1 h]; rfl)
    have HE := Lib.hid he
    have ht : ((n : Int) == 0) = false := by simpa using hz
    clear hn he
    go_wp2_with fail
    go_ret
    exact ⟨by rw [HA.out, HE.out]; simp, HU.out⟩

theorem says_isChar : Says 92 isCharI := ⟨enters_of Tryz.func92 (by kernel_rfl) rfl, fun r w => isChar_any r w⟩
theorem areAll_isText (s : List UInt8) : areAllB isCharI s = Pl.isText s := by
  unfold areAllB Pl.isText
  congr 2
  funext r
  exact isCharI_nat r
set_option maxHeartbeats 400000 in
theorem isText_any (s : List UInt8) (w : World) (hs : s.length ≤ 1000000000000) :
    Calls Tryz.prog 67 #[.string (mk s)] w fun e w' => e = .returned (.bool (Pl.isText s)) ∧ Up w w' := by
  go_enter Tryz.func67, Tryz.ntmps67
  go_wp2_with fail
  refine (areAll_any _ _ says_isChar s _ hs).mono ?_
  rintro e w1 ⟨rfl, hu1⟩
  rw [areAll_isText]
  go_wp2
  go_ret
  exact ⟨rfl, hu1⟩
end Go.Proofs.YtckfgkmfeklcmaaGreatDoor
