/- The texts EscA, EscB, EscC, EscD, EscE of this claim in one: the walks and plain laws that the statement's proof rests on. -/
import Derived.Test.YtckfgkmfeklcmaaGreatDoorGF
import Derived.Test.YtckfgkmfeklcmaaGreatDoorGC
import Derived.Test.YtckfgkmfeklcmaaGreatDoorGD
import Derived.Test.YtckfgkmfeklcmaaGreatDoorGAB
set_option linter.unusedVariables false
set_option linter.unusedSimpArgs false
/- Escapes: the table of names, filled once. -/
namespace Go.Proofs.YtckfgkmfeklcmaaGreatDoor
open Go.RowKit Go.Shelf
attribute [local go_sem] Oper.semAt_some

section
variable {P : Program} {w : World} {b : Nat} {kv : List (Value × Value)} {T K E : TypeId} {d : TypeDesc}
theorem push_modify (es : Array MapEntry) (e : MapEntry) (f : MapEntry → MapEntry) : (es.push e).modify es.size f = es.push (f e) := by
  apply Array.ext
  · simp
  · intro i h1 h2
    simp only [Array.getElem_modify, Array.getElem_push]
    by_cases h : i < es.size
    · simp only [h, dite_true]; rw [if_neg (by omega)]
    · simp only [h, dite_false]; rw [if_pos (by simp at h1; omega)]
theorem push_find (es : Array MapEntry) (e : MapEntry) (clock : Nat) (h : ∀ x ∈ es.toList, x.born < clock) (he : e.born = clock) : (es.push e).findIdx? (fun x => ((x.born : Nat) : Int) == ((clock : Nat) : Int)) = some es.size := by
  rw [Array.findIdx?_eq_some_iff_getElem]
  refine ⟨by simp, by simp [he], fun j hj => ?_⟩
  have h1 : (es.push e)[j]'(by simp; omega) = es[j] := by simp [Array.getElem_push, hj]
  have h2 := h es[j] (by simp)
  rw [h1]
  simp; omega
theorem run_entry_new (h : MapAt w b kv) (k v z : Value) (f : Value → Bool) (hT : P.underlying T = some (.map K E)) (hK : P.underlying K = some d) (hd : plainKey d = true) (hz : ∀ u, (zeroValue E).run P u = .ok z u)
    (hf : ∀ p ∈ kv, Instr.sameNow d k p.1 = some (f p.1)) (hno : ∀ p ∈ kv, f p.1 = false) :
    ∃ st W1 W2, (Instr.mapEntry T (.map (some b)) k).run P w = .ok (.tuple #[z, st]) W1 ∧ (Instr.entryStore T (.map (some b)) st v).run P W1 = .ok () W2 ∧ MapAt W2 b (kv ++ [(k, v)]) ∧ ItTurns (fun x => x = b) w W2 ∧ W2.heap.size = w.heap.size := by
  obtain ⟨es, clock, hb, hkv, hborn⟩ := h
  have hmem : ∀ e ∈ es.toList, Instr.sameNow d k e.key = some (f e.key) := fun e he => hf _ (mem_kv hkv he)
  have hno' : ∀ e ∈ es.toList, f e.key = false := fun e he => hno _ (mem_kv hkv he)
  have hlt := (Array.getElem?_eq_some_iff.1 hb).1
  refine ⟨goInt clock, w.putObj b (.map (es.push { key := k, val := z, born := clock }) (clock + 1)), (w.putObj b (.map (es.push { key := k, val := z, born := clock }) (clock + 1))).putObj b (.map (es.push { key := k, val := v, born := clock }) (clock + 1)), ?_, ?_, ⟨_, _, World.putObj_heap_same (by simpa using hlt), by simp [hkv], ?_⟩,
    ⟨rfl, rfl, rfl, by simp, fun i o ho hne => (World.putObj_heap_other hne).trans ((World.putObj_heap_other hne).trans ho)⟩, by simp⟩
  · unfold Instr.mapEntry
    simp only [Sem.run_bind, run_underlying hT, Result.andThen, getObj, Sem.run, hb, Sem.run_pure, run_checkKey _ _ hK hd, Instr.findKey, run_underlying hK]
    rw [findNow_none k f es.toList 0 hmem hno']
    simp [Sem.run_pure, Sem.run_bind, hz, Result.andThen, setObj, Sem.run, hb, World.putObj]
  · have hb2 : (w.putObj b (.map (es.push { key := k, val := z, born := clock }) (clock + 1))).heap[b]? = some (.map (es.push { key := k, val := z, born := clock }) (clock + 1)) := World.putObj_heap_same hlt
    have h1 := push_find es { key := k, val := z, born := clock } clock hborn rfl
    have h2 := push_modify es { key := k, val := z, born := clock } (fun e => { e with val := v })
    unfold Instr.entryStore
    simp only [Sem.run_bind, Result.andThen, getObj, Sem.run, hb2, Sem.run_pure, asInt, asIntOf, goInt, h1, h2, setObj]
    rfl
  · intro e he
    simp only [Array.toList_push, List.mem_append, List.mem_singleton] at he
    rcases he with he | rfl
    · have := hborn e he; omega
    · simp
end

def ampL : List UInt8 := [38, 60, 62, 34, 39]
def wordsL : List (List UInt8) := [[97, 109, 112], [108, 116], [103, 116], [113, 117, 111, 116], [97, 112, 111, 115]]
def namesKv : List (Value × Value) := [(.int .i32 38, .int .i64 0), (.int .i32 60, .int .i64 1), (.int .i32 62, .int .i64 2), (.int .i32 34, .int .i64 3), (.int .i32 39, .int .i64 4)]
def runesKv : List (Value × Value) := [(.int .i64 0, .int .i32 38), (.int .i64 1, .int .i32 60), (.int .i64 2, .int .i32 62), (.int .i64 3, .int .i32 34), (.int .i64 4, .int .i32 39)]
def wordsV : Array Value := #[.string (mk [97, 109, 112]), .string (mk [108, 116]), .string (mk [103, 116]), .string (mk [113, 117, 111, 116]), .string (mk [97, 112, 111, 115])]
theorem sameNow_i32 (n m : Int) : Instr.sameNow (.int .i32) (.int .i32 n) (.int .i32 m) = some (eqI n (.int .i32 m)) := rfl
theorem Tryz.zeroRune (w : World) : (zeroValue 21).run Tryz.prog w = .ok (.int .i32 0) w := by kernel_rfl

/-- the table, filled -/
structure TableAt (w : World) (tb : Nat) : Prop where
  lay : ∃ nb rb wb, w.heap[tb]? = some (.cells #[.int .u32 1, .int .i32 0, .int .u32 0, .map (some nb), .map (some rb), .slice (some ⟨wb, 0, none⟩) 5 5] 143 (0, 0)) ∧ MapAt w nb namesKv ∧ MapAt w rb runesKv ∧ w.heap[wb]? = some (.cells wordsV 9 (0, 0))
theorem TableAt.up {w w' : World} {tb : Nat} (h : TableAt w tb) (u : Up w w') : TableAt w' tb := by
  obtain ⟨nb, rb, wb, h1, h2, h3, h4⟩ := h.lay
  exact ⟨nb, rb, wb, (u.block tb (lt_of_block h1)).trans h1, h2.up u, h3.up u, (u.block wb (lt_of_block h4)).trans h4⟩

theorem itTurns_iterAt {Xs : Nat → Prop} {A w : World} (h : ItTurns Xs A w) {ib : Nat} (hk : A.heap.size ≤ ib) (s : ByteArray) (p : Nat) : ItTurns Xs A (w.iterAt ib s p) :=
  ⟨h.os, h.tape, h.output, by simpa [World.iterAt] using h.size, fun k o a b => (iterAt_other _ _ _ _ _ (by have := (Array.getElem?_eq_some_iff.1 a).1; omega)).trans (h.same k o a b)⟩
theorem MapAt.turn {Xs : Nat → Prop} {A B : World} {b : Nat} {kv : List (Value × Value)} (h : MapAt A b kv) (t : ItTurns Xs A B) (hx : ¬ Xs b) : MapAt B b kv := by
  obtain ⟨es, cl, m1, m2, m3⟩ := h
  exact ⟨es, cl, t.same b _ m1 hx, m2, m3⟩
theorem ItTurns.above {Xs Ys : Nat → Prop} {A B C : World} (h : ItTurns Xs A B) (t : ItTurns Ys B C) (hy : ∀ k, Ys k → A.heap.size ≤ k) : ItTurns Xs A C :=
  ⟨t.os.trans h.os, t.tape.trans h.tape, t.output.trans h.output, Nat.le_trans h.size t.size, fun k o a b => t.same k o (h.same k o a b) (fun y => by have := hy k y; have := (Array.getElem?_eq_some_iff.1 a).1; omega)⟩
theorem heap_drew (w : World) : w.drew.heap = w.heap := rfl
theorem fill_maps (W0 : World) (bx tb wb nb rb : Nat) (hne : bx ≠ tb) (hnr : (nb = W0.heap.size ∧ rb = W0.heap.size + 1) ∨ (nb = W0.heap.size + 1 ∧ rb = W0.heap.size))
    (hb : W0.heap[bx]? = some (.cells #[.pointer (some ⟨tb, 0, none⟩)] 128 (0, 0)))
    (ht : W0.heap[tb]? = some (.cells #[.int .u32 0, .int .i32 1, .int .u32 0, .map none, .map none, .slice (some ⟨wb, 0, none⟩) 5 5] 143 (0, 0))) (hw : W0.heap[wb]? = some (.cells wordsV 9 (0, 0))) (hwt : wb ≠ tb) :
    ∃ W1, ((((W0.setCell ⟨tb, 3, none⟩ (.map (some nb))).setCell ⟨tb, 4, none⟩ (.map (some rb))).alloc (.map #[] 0)).alloc (.map #[] 0)).drew = W1 ∧ W1.heap[bx]? = some (.cells #[.pointer (some ⟨tb, 0, none⟩)] 128 (0, 0)) ∧
      W1.heap[tb]? = some (.cells #[.int .u32 0, .int .i32 1, .int .u32 0, .map (some nb), .map (some rb), .slice (some ⟨wb, 0, none⟩) 5 5] 143 (0, 0)) ∧ W1.heap[wb]? = some (.cells wordsV 9 (0, 0)) ∧ MapAt W1 nb [] ∧ MapAt W1 rb [] ∧
      ItTurns (fun k => k = tb) W0 W1 ∧ nb ≠ rb ∧ nb ≠ tb ∧ rb ≠ tb ∧ bx < W1.heap.size ∧ tb < W1.heap.size ∧ nb ≠ bx ∧ rb ≠ bx ∧ nb ≠ wb ∧ rb ≠ wb ∧ W1.heap.size = W0.heap.size + 2 := by
  have l1 := lt_of_block hb
  have l2 := lt_of_block ht
  have l3 := lt_of_block hw
  have a1 := heap_setCell_at (i := 3) (v := .map (some nb)) ht
  have a2 := heap_setCell_at (i := 4) (v := .map (some rb)) a1
  refine ⟨_, rfl, ?_, ?_, ?_, ?_, ?_, ?_, by omega, by omega, by omega, by simp; omega, by simp; omega, by omega, by omega, by omega, by omega, by simp⟩
  · rw [heap_drew, Below.heap_alloc _ _ _ (by simp; omega), Below.heap_alloc _ _ _ (by simp; omega), Below.heap_setCell _ _ _ _ hne, Below.heap_setCell _ _ _ _ hne]; exact hb
  · rw [heap_drew, Below.heap_alloc _ _ _ (by simp; omega), Below.heap_alloc _ _ _ (by simp; omega)]; exact a2
  · rw [heap_drew, Below.heap_alloc _ _ _ (by simp; omega), Below.heap_alloc _ _ _ (by simp; omega), Below.heap_setCell _ _ _ _ hwt, Below.heap_setCell _ _ _ _ hwt]; exact hw
  · refine ⟨#[], 0, ?_, rfl, by simp⟩
    rcases hnr with ⟨h, _⟩ | ⟨h, _⟩
    · rw [heap_drew, Below.heap_alloc _ _ _ (by simp; omega)]; exact heap_new (by simp; omega)
    · rw [heap_drew]; exact heap_new (by simp; omega)
  · refine ⟨#[], 0, ?_, rfl, by simp⟩
    rcases hnr with ⟨_, h⟩ | ⟨_, h⟩
    · rw [heap_drew]; exact heap_new (by simp; omega)
    · rw [heap_drew, Below.heap_alloc _ _ _ (by simp; omega)]; exact heap_new (by simp; omega)
  · exact ((ItTurns.set (Xs := fun k => k = tb) (ItTurns.set (Xs := fun k => k = tb) (ItTurns.refl _ W0) ⟨tb, 3, none⟩ _ rfl) ⟨tb, 4, none⟩ _ rfl).trans (ItTurns.of_up (((Up.self _).alloc _).alloc _))).drew
theorem names_step (k : Nat) (hk : k < 5) : namesKv.take (k + 1) = namesKv.take k ++ [(.int .i32 ((ampL.getD k 0).toNat : Int), .int .i64 (k : Int))] ∧ runesKv.take (k + 1) = runesKv.take k ++ [(.int .i64 (k : Int), .int .i32 ((ampL.getD k 0).toNat : Int))] := by
  have : ∀ k : Fin 5, namesKv.take (k.1 + 1) = namesKv.take k.1 ++ [(.int .i32 ((ampL.getD k.1 0).toNat : Int), .int .i64 (k.1 : Int))] ∧ runesKv.take (k.1 + 1) = runesKv.take k.1 ++ [(.int .i64 (k.1 : Int), .int .i32 ((ampL.getD k.1 0).toNat : Int))] := by
    intro k
    match k with
    | ⟨0, _⟩ => exact ⟨rfl, rfl⟩
    | ⟨1, _⟩ => exact ⟨rfl, rfl⟩
    | ⟨2, _⟩ => exact ⟨rfl, rfl⟩
    | ⟨3, _⟩ => exact ⟨rfl, rfl⟩
    | ⟨4, _⟩ => exact ⟨rfl, rfl⟩
  exact this ⟨k, hk⟩
theorem names_new (k : Nat) (hk : k < 5) : (∀ p ∈ namesKv.take k, Instr.sameNow (.int .i32) (.int .i32 ((ampL.getD k 0).toNat : Int)) p.1 = some (eqI ((ampL.getD k 0).toNat : Int) p.1)) ∧ (∀ p ∈ namesKv.take k, eqI ((ampL.getD k 0).toNat : Int) p.1 = false) ∧
    (∀ p ∈ runesKv.take k, Instr.sameNow (.int .i64) (.int .i64 (k : Int)) p.1 = some (eqI (k : Int) p.1)) ∧ (∀ p ∈ runesKv.take k, eqI (k : Int) p.1 = false) := by
  have h5 : k = 0 ∨ k = 1 ∨ k = 2 ∨ k = 3 ∨ k = 4 := by omega
  rcases h5 with rfl | rfl | rfl | rfl | rfl <;> simp [namesKv, runesKv, ampL, eqI, sameNow_i32, sameNow_i64]

set_option maxRecDepth 100000 in
set_option maxHeartbeats 1600000 in
theorem fill1_any (bx tb : Nat) (w : World) (hne : bx ≠ tb) (hbx : w.heap[bx]? = some (.cells #[.pointer (some ⟨tb, 0, none⟩)] 128 (0, 0)))
    (htb : w.heap[tb]? = some (.cells #[.int .u32 0, .int .i32 1, .int .u32 0, .map none, .map none, .slice none 0 0] 143 (0, 0))) :
    Calls Tryz.prog 94 #[.pointer (some ⟨bx, 0, none⟩)] w fun e w' => e = .returned (.tuple #[]) ∧ ItTurns (fun k => k = tb) w w' ∧
      ∃ nb rb wb, w'.heap[tb]? = some (.cells #[.int .u32 0, .int .i32 1, .int .u32 0, .map (some nb), .map (some rb), .slice (some ⟨wb, 0, none⟩) 5 5] 143 (0, 0)) ∧ MapAt w' nb namesKv ∧ MapAt w' rb runesKv ∧ w'.heap[wb]? = some (.cells wordsV 9 (0, 0)) ∧ nb ≠ tb ∧ rb ≠ tb ∧ wb ≠ tb := by
  have hmm := @run_makeMap Tryz.prog
  have cb := cell_of_one hbx
  have c3 := cell_of_block htb 3
  have c4 := cell_of_block htb 4
  have c5 := cell_of_block htb 5
  have f3 := frozen_of_block htb 3
  have f4 := frozen_of_block htb 4
  have f5 := frozen_of_block htb 5
  have hl1 := lt_of_block hbx
  have hl2 := lt_of_block htb
  have HB := Lib.hid hbx
  have HT := Lib.hid htb
  clear hbx htb
  go_enter Tryz.func94, Tryz.ntmps94
  go_wp2_with fail
  obtain ⟨W0, hW0⟩ : ∃ W0, W0 = (w.setCell ⟨tb, 5, none⟩ (Value.slice (some ⟨w.heap.size, 0, none⟩) 5 5)).alloc (Obj.cells #[Value.string { data := #[97, 109, 112] }, Value.string { data := #[108, 116] }, Value.string { data := #[103, 116] }, Value.string { data := #[113, 117, 111, 116] }, Value.string { data := #[97, 112, 111, 115] }] 9) := ⟨_, rfl⟩
  rw [← hW0]
  have hs0 : W0.heap.size = w.heap.size + 1 := by rw [hW0]; simp
  have hb0 : W0.heap[bx]? = some (.cells #[.pointer (some ⟨tb, 0, none⟩)] 128 (0, 0)) := by
    rw [hW0, Below.heap_alloc _ _ _ (by simpa using hl1), Below.heap_setCell _ _ _ _ hne]; exact HB.out
  have ht0 : W0.heap[tb]? = some (.cells #[.int .u32 0, .int .i32 1, .int .u32 0, .map none, .map none, .slice (some ⟨w.heap.size, 0, none⟩) 5 5] 143 (0, 0)) := by
    rw [hW0, Below.heap_alloc _ _ _ (by simpa using hl2), heap_setCell_at HT.out]; rfl
  have hw0 : W0.heap[w.heap.size]? = some (.cells wordsV 9 (0, 0)) := by rw [hW0]; exact heap_new (by simp)
  have hi0 : ItTurns (fun k => k = tb) w W0 := by
    rw [hW0]; exact (ItTurns.set (Xs := fun k => k = tb) (ItTurns.refl _ w) ⟨tb, 5, none⟩ _ rfl).trans (ItTurns.of_up ((Up.self _).alloc _))
  clear hW0 cb c3 c4 c5 f3 f4 f5
  have cb := cell_of_one hb0
  have c3 := cell_of_block ht0 3
  have c4 := cell_of_block ht0 4
  have f3 := frozen_of_block ht0 3
  have f4 := frozen_of_block ht0 4
  have HB0 := Lib.hid hb0
  have HT0 := Lib.hid ht0
  have HW0 := Lib.hid hw0
  have HI0 := Lib.hid hi0
  have HS0 := Lib.hid hs0
  have lb := lt_of_block hb0
  have lt := lt_of_block ht0
  have lb1 : bx < W0.heap.size + 1 := by omega
  have lt1 : tb < W0.heap.size + 1 := by omega
  have lb2 : bx < W0.heap.size + 1 + 1 := by omega
  have lt2 : tb < W0.heap.size + 1 + 1 := by omega
  clear hb0 ht0 hw0 hi0 hs0
  have hne3 := hne
  go_region
  all_goals
    first
    | obtain ⟨W1, hW1, hb1, ht1, hw1, mn1, mr1, hi1, d1, d2, d3, e1, e2, d4, d5, d6, d7, hs1⟩ := fill_maps W0 bx tb w.heap.size W0.heap.size (W0.heap.size + 1) hne (.inl ⟨rfl, rfl⟩) HB0.out HT0.out HW0.out (by omega)
      rw [hW1]
      clear hW1 hs1
      have q1 : w.heap.size < W0.heap.size := by have := HS0.out; omega
      have q2 : w.heap.size < W0.heap.size + 1 := by omega
      generalize W0.heap.size + 1 = rb at *
      generalize W0.heap.size = nb at *
    | obtain ⟨W1, hW1, hb1, ht1, hw1, mn1, mr1, hi1, d1, d2, d3, e1, e2, d4, d5, d6, d7, hs1⟩ := fill_maps W0 bx tb w.heap.size (W0.heap.size + 1) W0.heap.size hne (.inr ⟨rfl, rfl⟩) HB0.out HT0.out HW0.out (by omega)
      rw [hW1]
      clear hW1 hs1
      have q1 : w.heap.size < W0.heap.size := by have := HS0.out; omega
      have q2 : w.heap.size < W0.heap.size + 1 := by omega
      generalize W0.heap.size + 1 = nb at *
      generalize W0.heap.size = rb at *
    have hnb : w.heap.size < nb := by first | exact q1 | exact q2
    have hrb : w.heap.size < rb := by first | exact q2 | exact q1
    clear q1 q2
    clear cb c3 c4 f3 f4 lb lt lb1 lt1 lb2 lt2
    have HB1 := Lib.hid hb1
    have HT1 := Lib.hid ht1
    have HW1 := Lib.hid hw1
    have MN := Lib.hid mn1
    have MR := Lib.hid mr1
    have HI1 := Lib.hid (ItTurns.trans HI0.out hi1)
    have hwb : w.heap.size < W1.heap.size := lt_of_block hw1
    have hnl := MN.out.lt
    have hrl := MR.out.lt
    clear hb1 ht1 hw1 mn1 mr1 hi1
    go_wp2_with fail
    have hit0 : (W1.iter { data := #[38, 60, 62, 34, 39] } 0).heap[W1.heap.size]? = some (.stringIter (mk ampL) 0) := World.iter_heap _ _ _
    have hU : Up W1 (W1.iter { data := #[38, 60, 62, 34, 39] } 0) := (Up.self _).alloc _
    generalize W1.iter { data := #[38, 60, 62, 34, 39] } 0 = W2 at *
    have START := Lib.hid (And.intro hit0 (And.intro ((hU.block bx e1).trans HB1.out) (And.intro ((hU.block tb e2).trans HT1.out) (And.intro ((hU.block _ hwb).trans HW1.out) (And.intro (MN.out.up hU) (And.intro (MR.out.up hU) (ItTurns.trans HI1.out (ItTurns.of_up hU))))))))
    clear hit0 hU HB1 HT1 HW1 MN MR HI1
    generalize W1.heap.size = ib at *
    go_loopw [1, 2] (fun _ _ wr => ∃ k : Nat, k ≤ 5 ∧ wr.heap[ib]? = some (.stringIter (mk ampL) k) ∧ wr.heap[bx]? = some (.cells #[.pointer (some ⟨tb, 0, none⟩)] 128 (0, 0)) ∧
      wr.heap[tb]? = some (.cells #[.int .u32 0, .int .i32 1, .int .u32 0, .map (some nb), .map (some rb), .slice (some ⟨w.heap.size, 0, none⟩) 5 5] 143 (0, 0)) ∧ wr.heap[w.heap.size]? = some (.cells wordsV 9 (0, 0)) ∧
      MapAt wr nb (namesKv.take k) ∧ MapAt wr rb (runesKv.take k) ∧ ItTurns (fun k => k = tb) w wr) (fun _ _ wr => 5 - iterPos wr ib)
    case atStart => exact ⟨0, by omega, START.out⟩
    case round =>
      obtain ⟨k, hk, hit, hb, ht, hw, mn, mr, hi⟩ := hrel
      by_cases hlt : k < 5
      · obtain ⟨hn1, hn2⟩ := names_step k hlt
        obtain ⟨g1, g2, g3, g4⟩ := names_new k hlt
        have ha : (ampL.getD k 0).toNat < 128 := by
          have : ∀ k : Fin 5, (ampL.getD k.1 0).toNat < 128 := by decide
          exact this ⟨k, hlt⟩
        have hnx := next_ascii (P := Tryz.prog) hit (show k < ampL.length from hlt) ha
        generalize hc : (ampL.getD k 0).toNat = c at *
        have hit2 := Lib.iterAt_heap wr ib (mk ampL) k (k + 1) hit
        have hoth : ∀ q, q ≠ ib → (wr.iterAt ib (mk ampL) (k + 1)).heap[q]? = wr.heap[q]? := fun q hq => iterAt_other _ _ _ _ _ hq
        have hi2 : ItTurns (fun k => k = tb) w (wr.iterAt ib (mk ampL) (k + 1)) := itTurns_iterAt hi (by omega) _ _
        have HITP := Lib.hid (iterPos_eq hit)
        generalize wr.iterAt ib (mk ampL) (k + 1) = W3 at *
        have hb3 := (hoth bx (by omega)).trans hb
        have ht3 := (hoth tb (by omega)).trans ht
        have hw3 := (hoth w.heap.size (by omega)).trans hw
        have mn3 := mn.same (hoth nb (by omega))
        have mr3 := mr.same (hoth rb (by omega))
        obtain ⟨st1, V1, V2, r1, r2, mn4, i4, z4⟩ := run_entry_new (P := Tryz.prog) (w := W3.drew) mn3 (.int .i32 (c : Int)) (.int .i64 (k : Int)) (.int .i64 0) (eqI (c : Int)) Tryz.underlying139 Tryz.underlying21 rfl Tryz.zeroInt g1 g2
        have mr4 : MapAt V2 rb (runesKv.take k) := by
          obtain ⟨es, cl, m1, m2, m3⟩ := mr3
          exact ⟨es, cl, i4.same rb _ m1 (fun e => d1 e.symm), m2, m3⟩
        obtain ⟨st2, V3, V4, r3, r4, mr5, i5, z5⟩ := run_entry_new (P := Tryz.prog) (w := V2) mr4 (.int .i64 (k : Int)) (.int .i32 (c : Int)) (.int .i32 0) (eqI (k : Int)) Tryz.underlying140 Tryz.underlying3 rfl Tryz.zeroRune g3 g4
        have cb := cell_of_one hb3
        have c3 := cell_of_block ht3 3
        have c4 := cell_of_block ht3 4
        go_wp2_with fail
        go_region
        all_goals
          go_wp2_with fail
          go_roundw
          case rel =>
            refine ⟨k + 1, by omega, i5.same ib _ (i4.same ib _ hit2 (by omega)) (by omega), i5.same bx _ (i4.same bx _ hb3 (by omega)) (by omega), i5.same tb _ (i4.same tb _ ht3 (by omega)) (by omega), i5.same w.heap.size _ (i4.same w.heap.size _ hw3 (by omega)) (by omega), ?_, ?_, ?_⟩
            · rw [hn1]; exact MapAt.turn mn4 i5 d1
            · rw [hn2]; exact mr5
            · exact ItTurns.above (ItTurns.above hi2.drew i4 (fun k h => by omega)) i5 (fun k h => by omega)
          case measure =>
            rw [HITP.out, iterPos_eq (i5.same ib _ (i4.same ib _ hit2 (by omega)) (by omega))]; omega
      · have hk5 : k = 5 := by omega
        subst hk5
        have hnx := next_end (P := Tryz.prog) hit (by decide)
        go_wp2_with fail
        go_end0
        exact ⟨rfl, hi, nb, rb, _, ht, mn, mr, hw, d2, d3, by omega⟩
end Go.Proofs.YtckfgkmfeklcmaaGreatDoor

/- Escapes: the table, its words told. -/
namespace Go.Proofs.YtckfgkmfeklcmaaGreatDoor
open Go.RowKit Go.Shelf
attribute [local go_sem] Oper.semAt_some

def tableZero : Array Value := #[.int .u32 0, .int .i32 0, .int .u32 0, .map none, .map none, .slice none 0 0]
set_option maxRecDepth 100000 in
set_option maxHeartbeats 1600000 in
theorem fill_any (tb : Nat) (w : World) (htb : w.heap[tb]? = some (.cells tableZero 143 (0, 0))) :
    Calls Tryz.prog 68 #[.pointer (some ⟨tb, 0, none⟩)] w fun e w' => e = .returned (.pointer (some ⟨tb, 0, none⟩)) ∧ TableAt w' tb ∧ ItTurns (fun k => k = tb) w w' := by
  have hmf := @run_makeFunc Tryz.prog
  have hl := lt_of_block htb
  have hne : w.heap.size ≠ tb := by omega
  obtain ⟨W1, hW1⟩ : ∃ W1, W1 = w.alloc (.cells #[.pointer (some ⟨tb, 0, none⟩)] 128) := ⟨_, rfl⟩
  have hb1 : W1.heap[w.heap.size]? = some (.cells #[.pointer (some ⟨tb, 0, none⟩)] 128 (0, 0)) := by rw [hW1]; exact heap_new rfl
  have ht1 : W1.heap[tb]? = some (.cells tableZero 143 (0, 0)) := by rw [hW1, Below.heap_alloc _ _ _ hl]; exact htb
  have hi1 : ItTurns (fun k => k = tb) w W1 := by rw [hW1]; exact ItTurns.of_up ((Up.self w).alloc _)
  have hb2 : (W1.setCell ⟨tb, 1, none⟩ (.int .i32 1)).heap[w.heap.size]? = some (.cells #[.pointer (some ⟨tb, 0, none⟩)] 128 (0, 0)) := (Below.heap_setCell _ _ _ _ hne).trans hb1
  have ht2 := heap_setCell_at (i := 1) (v := .int .i32 1) ht1
  have hfill := fill1_any w.heap.size tb (W1.setCell ⟨tb, 1, none⟩ (.int .i32 1)) hne hb2 ht2
  have honce := once_first 94 tb (.pointer (some ⟨w.heap.size, 0, none⟩)) _ W1 (enters_of Tryz.func94 (by kernel_rfl) rfl) (cell_of_block ht1 0) (cell_of_block ht1 1) (frozen_of_block ht1 0) (frozen_of_block ht1 1) hfill (by
    rintro w' ⟨hi, nb, rb, wb, h1, _⟩
    exact ⟨cell_of_block h1 0, cell_of_block h1 1, frozen_of_block h1 0, frozen_of_block h1 1⟩)
  have HO := Lib.hid honce
  have HB2 := Lib.hid hb2
  have HI1 := Lib.hid hi1
  have hi2 : ItTurns (fun k => k = tb) W1 (W1.setCell ⟨tb, 1, none⟩ (.int .i32 1)) := ItTurns.set (Xs := fun k => k = tb) (ItTurns.refl _ W1) ⟨tb, 1, none⟩ _ rfl
  have HI2 := Lib.hid hi2
  clear honce hfill hb1 ht1 hi1 hb2 ht2 htb hi2
  go_enter Tryz.func68, Tryz.ntmps68
  go_wp2_with fail
  rw [← hW1]
  refine HO.out.mono ?_
  rintro e w' ⟨rfl, w2, ⟨hi, nb, rb, wb, h1, mn, mr, h2, d1, d2, d3⟩, hw'⟩
  have hb3 : w'.heap[w.heap.size]? = some (.cells #[.pointer (some ⟨tb, 0, none⟩)] 128 (0, 0)) := by
    rw [hw', Below.heap_setCell _ _ _ _ hne, Below.heap_setCell _ _ _ _ hne, heap_drew]
    exact hi.same _ _ HB2.out hne
  have ht3 : w'.heap[tb]? = some (.cells #[.int .u32 1, .int .i32 0, .int .u32 0, .map (some nb), .map (some rb), .slice (some ⟨wb, 0, none⟩) 5 5] 143 (0, 0)) := by
    rw [hw']
    exact heap_setCell_at (i := 1) (v := .int .i32 0) (heap_setCell_at (w := w2.drew) (i := 0) (v := .int .u32 1) h1)
  have mn3 : MapAt w' nb namesKv := mn.same (by rw [hw', Below.heap_setCell _ _ _ _ d1, Below.heap_setCell _ _ _ _ d1]; rfl)
  have mr3 : MapAt w' rb runesKv := mr.same (by rw [hw', Below.heap_setCell _ _ _ _ d2, Below.heap_setCell _ _ _ _ d2]; rfl)
  have hw3 : w'.heap[wb]? = some (.cells wordsV 9 (0, 0)) := by
    rw [hw', Below.heap_setCell _ _ _ _ d3, Below.heap_setCell _ _ _ _ d3]; exact h2
  have hi3 : ItTurns (fun k => k = tb) w w' := by
    rw [hw']
    exact ItTurns.set (Xs := fun k => k = tb) (ItTurns.set (Xs := fun k => k = tb) (((ItTurns.trans HI1.out HI2.out).trans hi).drew) ⟨tb, 0, none⟩ _ rfl) ⟨tb, 1, none⟩ _ rfl
  have cb := cell_of_one hb3
  have HT := Lib.hid (show TableAt w' tb from ⟨nb, rb, wb, ht3, mn3, mr3, hw3⟩)
  have HI := Lib.hid hi3
  clear hi h1 mn mr h2 hb3 ht3 mn3 mr3 hw3 hi3 hw' hW1
  go_wp2
  go_ret
  exact ⟨rfl, HT.out, HI.out⟩

/-- a rune's escape, by name or by number -/
def escV (r : Int) : Value := if r = 38 then .tuple #[.string (mk [38, 97, 109, 112, 59]), .bool true] else if r = 60 then .tuple #[.string (mk [38, 108, 116, 59]), .bool true] else if r = 62 then .tuple #[.string (mk [38, 103, 116, 59]), .bool true]
  else if r = 34 then .tuple #[.string (mk [38, 113, 117, 111, 116, 59]), .bool true] else if r = 9 then .tuple #[.string (mk [38, 35, 57, 59]), .bool true] else if r = 10 then .tuple #[.string (mk [38, 35, 49, 48, 59]), .bool true]
  else if r = 13 then .tuple #[.string (mk [38, 35, 49, 51, 59]), .bool true] else .tuple #[.string (mk []), .bool false]

set_option maxRecDepth 100000 in
set_option maxHeartbeats 1600000 in
theorem escaped_any (tb : Nat) (r : Int) (w : World) (ht : TableAt w tb) (h0 : 0 ≤ r) (h1 : r ≤ 1114111) :
    Calls Tryz.prog 69 #[.pointer (some ⟨tb, 0, none⟩), .int .i32 r] w fun e w' => e = .returned (escV r) ∧ Up w w' := by
  obtain ⟨nb, rb, wb, hb, mn, mr, hw⟩ := ht.lay
  have c3 := cell_of_block hb 3
  have c5 := cell_of_block hb 5
  have lk := run_lookup_ok (P := Tryz.prog) mn (.int .i32 r) (.int .i64 0) (eqI r) Tryz.underlying139 Tryz.underlying21 rfl (Tryz.zeroInt w) (by simp [namesKv, sameNow_i32]) true
  simp only [if_true] at lk
  have w0 : w.cell? ⟨wb, 0, none⟩ = some (.string (mk [97, 109, 112])) := cell_of_block hw 0
  have w1 : w.cell? ⟨wb, 1, none⟩ = some (.string (mk [108, 116])) := cell_of_block hw 1
  have w2 : w.cell? ⟨wb, 2, none⟩ = some (.string (mk [103, 116])) := cell_of_block hw 2
  have w3 : w.cell? ⟨wb, 3, none⟩ = some (.string (mk [113, 117, 111, 116])) := cell_of_block hw 3
  have w4 : w.cell? ⟨wb, 4, none⟩ = some (.string (mk [97, 112, 111, 115])) := cell_of_block hw 4
  clear hb mn mr hw
  by_cases r38 : r = 38
  · subst r38
    simp [namesKv, eqI] at lk
    go_enter Tryz.func69, Tryz.ntmps69
    go_wp2
    go_ret2
    exact ⟨rfl, Up.self w⟩
  by_cases r60 : r = 60
  · subst r60
    simp [namesKv, eqI] at lk
    go_enter Tryz.func69, Tryz.ntmps69
    go_wp2
    go_ret2
    exact ⟨rfl, Up.self w⟩
  by_cases r62 : r = 62
  · subst r62
    simp [namesKv, eqI] at lk
    go_enter Tryz.func69, Tryz.ntmps69
    go_wp2
    go_ret2
    exact ⟨rfl, Up.self w⟩
  by_cases r34 : r = 34
  · subst r34
    simp [namesKv, eqI] at lk
    go_enter Tryz.func69, Tryz.ntmps69
    go_wp2
    go_ret2
    exact ⟨rfl, Up.self w⟩
  have hlk : (Instr.lookup 139 (.map (some nb)) (.int .i32 r) true).run Tryz.prog w = .ok (if r = 39 then .tuple #[.int .i64 4, .bool true] else .tuple #[.int .i64 0, .bool false]) w := by
    rw [lk]
    by_cases e : r = 39
    · subst e; rfl
    · simp [namesKv, eqI, r38, r60, r62, r34, e]
  clear lk
  have b9 : ∀ m : Nat, m = 9 ∨ m = 10 ∨ m = 13 → ((m : Int) < 18446744073709551616) := fun m h => by omega
  by_cases r9 : r = 9
  · subst r9
    simp at hlk
    have hp : mk (Pl.numPut 10 9) = mk [57] := by decide +kernel
    go_enter Tryz.func69, Tryz.ntmps69
    go_wp2_with fail
    refine (numPut_any 10 9 _ (by omega) (by omega)).mono ?_
    rintro e w' ⟨rfl, hu⟩
    rw [hp]
    go_wp2_with fail
    go_ret2
    exact ⟨rfl, hu⟩
  by_cases r10 : r = 10
  · subst r10
    simp at hlk
    have hp : mk (Pl.numPut 10 10) = mk [49, 48] := by decide +kernel
    go_enter Tryz.func69, Tryz.ntmps69
    go_wp2_with fail
    refine (numPut_any 10 10 _ (by omega) (by omega)).mono ?_
    rintro e w' ⟨rfl, hu⟩
    rw [hp]
    go_wp2_with fail
    go_ret2
    exact ⟨rfl, hu⟩
  by_cases r13 : r = 13
  · subst r13
    simp at hlk
    have hp : mk (Pl.numPut 10 13) = mk [49, 51] := by decide +kernel
    go_enter Tryz.func69, Tryz.ntmps69
    go_wp2_with fail
    refine (numPut_any 10 13 _ (by omega) (by omega)).mono ?_
    rintro e w' ⟨rfl, hu⟩
    rw [hp]
    go_wp2_with fail
    go_ret2
    exact ⟨rfl, hu⟩
  have hres : escV r = .tuple #[.string (mk []), .bool false] := by simp [escV, r38, r60, r62, r34, r9, r10, r13]
  have HRES := Lib.hid hres
  clear hres
  have hb9 : (r == 9) = false := by simpa using r9
  have hb10 : (r == 10) = false := by simpa using r10
  have hb13 : (r == 13) = false := by simpa using r13
  by_cases r39 : r = 39
  · subst r39
    simp at hlk
    go_enter Tryz.func69, Tryz.ntmps69
    go_wp2
    go_ret2
    exact ⟨by rw [HRES.out]; rfl, Up.self w⟩
  · simp [r39] at hlk
    clear r38 r60 r62 r34 r9 r10 r13 r39
    go_enter Tryz.func69, Tryz.ntmps69
    go_wp2
    go_ret2
    exact ⟨by rw [HRES.out]; rfl, Up.self w⟩
end Go.Proofs.YtckfgkmfeklcmaaGreatDoor

/- Escapes: what is written. -/
namespace Go.Proofs.YtckfgkmfeklcmaaGreatDoor
open Go.RowKit Go.Shelf
attribute [local go_sem] Oper.semAt_some

/-- a writer in block b that holds these bytes -/
def Wr (M b : Nat) (l : List UInt8) (w : World) : Prop := Bld M b 95 #[.int .i64 (l.length : Int)] l w
theorem i64_in (n : Int) (h0 : -9223372036854775808 ≤ n) (h1 : n < 9223372036854775808) : IntKind.i64.wrap n = n := by rw [IntKind.wrap_i64]; omega

set_option maxRecDepth 100000 in
set_option maxHeartbeats 1600000 in
theorem add_any (b o : Nat) (x y : Int) (w : World) (hc : w.cell? ⟨b, o, none⟩ = some (.int .i64 x)) (hz : w.frozen? ⟨b, o, none⟩ = false) (h0 : 0 ≤ x) (h1 : 0 ≤ y) (h2 : x + y ≤ 1000000000000000) :
    Calls Tryz.prog 96 #[.pointer (some ⟨b, o, none⟩), .int .i64 y] w fun e w' => e = .returned (.int .i64 (x + y)) ∧ w' = w.setCell ⟨b, o, none⟩ (.int .i64 (x + y)) := by
  have hw := i64_in (x + y) (by omega) (by omega)
  have hadd := run_call_add (P := Tryz.prog) Tryz.func120 (by kernel_rfl) (by kernel_rfl) (by kernel_rfl) .i64 (by kernel_rfl) (y := y) (s := x + y) hc hz (by simp [go_sem, hw])
  go_enter Tryz.func96, Tryz.ntmps96
  go_wp2
  go_ret
  exact ⟨rfl, rfl⟩

theorem set2 (p v x y : Value) : (#[p, v] ++ #[x]).setIfInBounds 2 y = #[p, v] ++ #[y] := rfl
set_option maxRecDepth 100000 in
set_option maxHeartbeats 1600000 in
theorem write_one (M b a : Nat) (l s : List UInt8) (w : World) (hlen : l.length + s.length ≤ 100000000000000) (hM : M ≤ w.heap.size) (h : Wr M b l w) (hb : b ≠ a) (ha : w.heap[a]? = some (.cells #[.string (mk s)] 9 (0, 0))) :
    Calls Tryz.prog 70 #[.pointer (some ⟨b, 0, none⟩), .slice (some ⟨a, 0, none⟩) 1 1] w fun e w' => e = .returned (.tuple #[]) ∧ Wr M b (l ++ s) w' ∧ Below M w w' ∧ Lib.OthersKept 5 (some b) w w' ∧ w.heap.size ≤ w'.heap.size := by
  have ca := cell_of_one ha
  have hsz := mk_size s
  go_enter Tryz.func70, Tryz.ntmps70
  go_wp2
  refine wp_loop_rounds 2 ?_
  go_wp2_with (with_reducible refine rounds_go ?_)
  refine (writeString_any M b 95 3 #[.int .i64 (l.length : Int)] l s w bk_writer rfl (by omega) hM h).mono ?_
  rintro e w1 ⟨rfl, ⟨hB, v, hb1, hown, hne⟩, hbel, hoth, hsz1⟩
  have c2 : w1.cell? ⟨b, 2, none⟩ = some (.int .i64 (l.length : Int)) := cell_app hb1 rfl
  have f2 : w1.frozen? ⟨b, 2, none⟩ = false := Lib.frozen_of_heap hb1 2
  have HB := Lib.hid hb1
  have HOWN := Lib.hid hown
  have HBEL := Lib.hid hbel
  have HOTH := Lib.hid hoth
  have HSZ := Lib.hid hsz1
  clear hb1 hown hbel hoth h ca ha hsz1
  go_wp2_with (with_reducible refine rounds_go ?_)
  refine (add_any b 2 (l.length : Int) (s.length : Int) w1 c2 f2 (by omega) (by omega) (by omega)).mono ?_
  rintro e w2 ⟨rfl, rfl⟩
  go_wp2_with (with_reducible refine rounds_go ?_)
  go_end0
  refine ⟨rfl, ⟨_, .inr rfl, hB, v, ?_, ?_, hne⟩, HBEL.out.setCell (p := ⟨b, 2, none⟩) hB _, HOTH.out.setCell ⟨b, 2, none⟩ rfl _, by simpa using HSZ.out⟩
  · rw [heap_setCell_at HB.out, set2, List.length_append]
    rfl
  · exact ownsRow_setCell_other HOWN.out (fun e => hne e) _
end Go.Proofs.YtckfgkmfeklcmaaGreatDoor

/- Escapes: a text's escape. -/
namespace Pl
theorem encode_enc (r : Nat) (h : isRune r = true) : Go.Utf8.encode (r : Int) = mkB (enc r) := by
  have hv : Go.Utf8.valid (r : Int) = true := by simp [isRune] at h; simp [Go.Utf8.valid]; omega
  unfold Go.Utf8.encode enc mkB
  rw [if_pos hv]
  simp only [Int.toNat_natCast]
  (repeat' split) <;> first | rfl | omega
theorem esc_same {c : UInt8} (h1 : c.toNat ≠ 38) (h2 : c.toNat ≠ 60) (h3 : c.toNat ≠ 62) (h4 : c.toNat ≠ 34) (h5 : c.toNat ≠ 9) (h6 : c.toNat ≠ 10) (h7 : c.toNat ≠ 13) : esc c = [c] := by
  unfold esc
  split <;> first | rfl | (exfalso; omega)
end Pl
namespace Go.Proofs.YtckfgkmfeklcmaaGreatDoor
open Go.RowKit Go.Shelf
attribute [local go_sem] Oper.semAt_some

theorem escV_cases (r : Nat) (h : Pl.isRune r = true) : (∃ x, escV (r : Int) = .tuple #[.string (mk x), .bool true] ∧ Pl.escs (Pl.enc r) = x) ∨ (escV (r : Int) = .tuple #[.string (mk []), .bool false] ∧ Pl.escs (Pl.enc r) = Pl.enc r) := by
  unfold escV
  by_cases h1 : r = 38
  · subst h1; exact .inl ⟨_, by rfl, by decide⟩
  by_cases h2 : r = 60
  · subst h2; exact .inl ⟨_, by rfl, by decide⟩
  by_cases h3 : r = 62
  · subst h3; exact .inl ⟨_, by rfl, by decide⟩
  by_cases h4 : r = 34
  · subst h4; exact .inl ⟨_, by rfl, by decide⟩
  by_cases h5 : r = 9
  · subst h5; exact .inl ⟨_, by rfl, by decide⟩
  by_cases h6 : r = 10
  · subst h6; exact .inl ⟨_, by rfl, by decide⟩
  by_cases h7 : r = 13
  · subst h7; exact .inl ⟨_, by rfl, by decide⟩
  right
  rw [if_neg (by omega), if_neg (by omega), if_neg (by omega), if_neg (by omega), if_neg (by omega), if_neg (by omega), if_neg (by omega)]
  refine ⟨rfl, ?_⟩
  by_cases h8 : r < 128
  · rw [Pl.enc_ascii h8]
    have hc : (r.toUInt8).toNat = r := Pl.u8 r (by omega)
    simp only [Pl.escs, List.flatMap_cons, List.flatMap_nil, List.append_nil]
    exact Pl.esc_same (by omega) (by omega) (by omega) (by omega) (by omega) (by omega) (by omega)
  · exact Pl.escs_high (fun c hc => by have := Pl.enc_high (by omega) (Pl.enc_lt h) c hc; omega)

theorem escs_len (l : List UInt8) : (Pl.escs l).length ≤ 6 * l.length := by
  induction l with
  | nil => simp [Pl.escs]
  | cons c t ih =>
    have h1 : (Pl.esc c).length ≤ 6 := by unfold Pl.esc; split <;> simp
    have h2 : Pl.escs (c :: t) = Pl.esc c ++ Pl.escs t := by simp [Pl.escs]
    rw [h2, List.length_append]; simp; omega

theorem MapAt.others {w w' : World} {b m : Nat} {kv : List (Value × Value)} {c : Array Value} {T : TypeId} {f : Nat × Nat} (h : MapAt w m kv) (ho : Lib.OthersKept 5 (some b) w w') (hb : w.heap[b]? = some (.cells c T f)) : MapAt w' m kv := by
  obtain ⟨es, cl, m1, m2, m3⟩ := h
  refine ⟨es, cl, ho m _ m1 (fun e => ?_) (by simp), m2, m3⟩
  cases e
  rw [hb] at m1; cases m1
theorem others_cells {w w' : World} {b k : Nat} {c d : Array Value} {T S : TypeId} {f g : Nat × Nat} (h : w.heap[k]? = some (.cells d S g)) (ho : Lib.OthersKept 5 (some b) w w') (hb : w.heap[b]? = some (.cells c T f)) (h1 : S ≠ T) (h2 : S ≠ 5) : w'.heap[k]? = some (.cells d S g) := by
  refine ho k _ h (fun e => ?_) (by rintro c' fz e; injection e with _ e _; exact h2 e)
  cases e
  rw [hb] at h; injection h with h; injection h with _ h _; exact h1 h.symm
theorem TableAt.others {w w' : World} {b tb : Nat} {c : Array Value} {T : TypeId} {f : Nat × Nat} (h : TableAt w tb) (ho : Lib.OthersKept 5 (some b) w w') (hb : w.heap[b]? = some (.cells c T f)) (h1 : 143 ≠ T) (h2 : 9 ≠ T) : TableAt w' tb := by
  obtain ⟨nb, rb, wb, a1, a2, a3, a4⟩ := h.lay
  exact ⟨nb, rb, wb, others_cells a1 ho hb h1 (by decide), a2.others ho hb, a3.others ho hb, others_cells a4 ho hb h2 (by decide)⟩
theorem Bld.up {M b T : Nat} {r : Array Value} {l : List UInt8} {w w' : World} (h : Bld M b T r l w) (u : Up w w') : Bld M b T r l w' := by
  obtain ⟨p, hp, hB, v, h1, h2, h3⟩ := h
  refine ⟨p, hp, hB, v, (u.block b (lt_of_block h1)).trans h1, ⟨h2.1, ?_⟩, h3⟩
  rcases h2.2 with h0 | ⟨g, cap, cur, hv, hb, hg, rest⟩
  · exact .inl h0
  · exact .inr ⟨g, cap, cur, hv, hb, (u.block g (lt_of_block hg)).trans hg, rest⟩
theorem Bld.cells {M b T : Nat} {r : Array Value} {l : List UInt8} {w : World} (h : Bld M b T r l w) : ∃ c, w.heap[b]? = some (.cells c T (0, 0)) := by
  obtain ⟨p, hp, hB, v, h1, h2, h3⟩ := h
  exact ⟨_, h1⟩

def putL (s : List UInt8) : List UInt8 := if Pl.isText s then Pl.escs s else []
def putV (b : Nat) (s : List UInt8) : Value := .tuple #[.pointer (some ⟨b, 0, none⟩), .bool (Pl.isText s)]
theorem putV_eq {b : Nat} {s : List UInt8} {x : Bool} (h : Pl.isText s = x) : putV b s = .tuple #[.pointer (some ⟨b, 0, none⟩), .bool x] := by unfold putV; rw [h]
/-- what is no string's iterator is as it was -/
def NoIter (w w' : World) : Prop := ∀ (k : Nat) (o : Obj), w.heap[k]? = some o → (∀ s p, o ≠ Obj.stringIter s p) → w'.heap[k]? = some o
theorem iterAt_noIter {w : World} {ib k : Nat} {s t : ByteArray} {p q : Nat} (h : w.heap[ib]? = some (.stringIter t q)) : NoIter w (w.iterAt ib s p) := fun k o a b =>
  (iterAt_other _ _ _ _ _ (fun e => by subst e; rw [h] at a; cases a; exact b _ _ rfl)).trans a
theorem Bld.noIter {M b T : Nat} {r : Array Value} {l : List UInt8} {w w' : World} (h : Bld M b T r l w) (u : NoIter w w') : Bld M b T r l w' := by
  obtain ⟨p, hp, hB, v, h1, h2, h3⟩ := h
  refine ⟨p, hp, hB, v, u b _ h1 (by simp), ⟨h2.1, ?_⟩, h3⟩
  rcases h2.2 with h0 | ⟨g, cap, cur, hv, hb, hg, rest⟩
  · exact .inl h0
  · exact .inr ⟨g, cap, cur, hv, hb, u g _ hg (by simp), rest⟩
theorem TableAt.noIter {w w' : World} {tb : Nat} (h : TableAt w tb) (u : NoIter w w') : TableAt w' tb := by
  obtain ⟨nb, rb, wb, h1, ⟨e2, c2, m2, r2⟩, ⟨e3, c3, m3, r3⟩, h4⟩ := h.lay
  exact ⟨nb, rb, wb, u _ _ h1 (by simp), ⟨e2, c2, u _ _ m2 (by simp), r2⟩, ⟨e3, c3, u _ _ m3 (by simp), r3⟩, u _ _ h4 (by simp)⟩

set_option maxRecDepth 100000 in
set_option maxHeartbeats 1600000 in
theorem eput_any (s : List UInt8) (w : World) (hs : s.length ≤ 1000000000000) :
    Calls Tryz.prog 44 #[.string (mk s)] w fun e w' => e = .returned (putV w.heap.size s) ∧ Wr w.heap.size w.heap.size (putL s) w' ∧ Up w w' := by
  go_enter Tryz.func44, Tryz.ntmps44
  go_wp2_with fail
  refine (isText_any s _ hs).mono ?_
  rintro e w1 ⟨rfl, hu1⟩
  have hwr0 : Wr w.heap.size w.heap.size [] (w.alloc (.cells #[.pointer none, .slice none 0 0, .int .i64 0] 95)) :=
    ⟨_, .inl rfl, Nat.le_refl _, _, heap_new rfl, World.ownsRow_nil _ _ _ _, by simp [Value.ownBlock]⟩
  have hwr1 : Wr w.heap.size w.heap.size [] w1 := Bld.up hwr0 hu1
  have hup1 : Up w w1 := ((Up.self w).alloc _).trans hu1
  have hl1 : w.heap.size < w1.heap.size := Nat.lt_of_lt_of_le (by simp) hu1.size
  have HWR1 := Lib.hid hwr1
  have HUP1 := Lib.hid hup1
  clear hwr0 hwr1 hup1 hu1
  cases ht : Pl.isText s
  · have HT := Lib.hid ht
    clear ht
    go_wp2_with fail
    go_ret2
    exact ⟨by rw [putV_eq HT.out]; rfl, by unfold putL; rw [HT.out]; exact HWR1.out, HUP1.out⟩
  · have HT := Lib.hid ht
    clear ht
    go_wp2_with fail
    refine (fill_any w1.heap.size _ (heap_new rfl)).mono ?_
    rintro e w2 ⟨rfl, htab, hi2⟩
    have hi3 : ItTurns (fun k => w1.heap.size ≤ k) w1 w2 := ⟨hi2.os, hi2.tape, hi2.output, Nat.le_trans (by simp) hi2.size, fun k o a b => hi2.same k o ((Below.heap_alloc _ _ _ (Array.getElem?_eq_some_iff.1 a).1).trans a) (by show ¬ k = _; have : ¬ (w1.heap.size ≤ k) := b; omega)⟩
    have hup2 : Up w1 w2 := ⟨hi3.os, hi3.tape, hi3.output, hi3.size, fun k hk => by
      rw [Array.getElem?_eq_getElem hk]
      exact hi3.same k _ (Array.getElem?_eq_getElem hk) (by show ¬ (w1.heap.size ≤ k); omega)⟩
    have hwr2 := Lib.hid (Bld.up HWR1.out hup2)
    have hu2 := Lib.hid (HUP1.out.trans hup2)
    have HTAB := Lib.hid htab
    have hl2 : w.heap.size < w2.heap.size := Nat.lt_of_lt_of_le hl1 hup2.size
    clear htab hi2 hi3 hup2 HWR1 HUP1
    generalize w1.heap.size = tb at *
    go_wp2_with fail
    have hit0 : (w2.iter (mk s) 0).heap[w2.heap.size]? = some (.stringIter (mk s) 0) := World.iter_heap _ _ _
    have hU : Up w2 (w2.iter (mk s) 0) := (Up.self _).alloc _
    obtain ⟨rs, hrs, hse⟩ := (Pl.isText_iff s).1 HT.out
    have hin : w.heap.size < (w2.iter (mk s) 0).heap.size := Nat.lt_of_lt_of_le hl2 hU.size
    have START := Lib.hid (And.intro hit0 (And.intro (Bld.up hwr2.out hU) (And.intro (HTAB.out.up hU) (And.intro (hu2.out.trans hU) hin))))
    clear hit0 hU hwr2 HTAB hu2 hin
    generalize w2.iter (mk s) 0 = W2 at *
    have HIB := Lib.hid hl2
    clear hl2
    generalize w2.heap.size = ib at *
    have HSE := Lib.hid hse
    have HRS := Lib.hid hrs
    clear hrs hse
    go_loopw [7, 8, 9] (fun _ _ _ wr => ∃ l1 l2 : List Nat, rs = l1 ++ l2 ∧ wr.heap[ib]? = some (.stringIter (mk s) (Pl.enes l1).length) ∧ Wr w.heap.size w.heap.size (Pl.escs (Pl.enes l1)) wr ∧ TableAt wr tb ∧ Up w wr ∧ w.heap.size < wr.heap.size) (fun _ _ _ wr => s.length - iterPos wr ib)
    case atStart => exact ⟨[], rs, rfl, START.out⟩
    case round =>
      obtain ⟨l1, l2, hsp, hit, hwr, htab, hup, hin⟩ := hrel
      have HIT := Lib.hid hit
      have HWR := Lib.hid hwr
      have HTAB := Lib.hid htab
      have HUP := Lib.hid hup
      clear hit hwr htab hup
      cases l2 with
      | nil =>
        have hl : rs = l1 := by simpa using hsp
        subst hl
        have hnx := next_end (P := Tryz.prog) HIT.out (by rw [HSE.out]; omega)
        clear hsp
        go_wp2_with fail
        go_ret2
        exact ⟨by rw [putV_eq HT.out]; rfl, by unfold putL; rw [HT.out, HSE.out]; exact HWR.out, HUP.out⟩
      | cons r l2 =>
        have hr : Pl.isRune r = true := Pl.isChar_isRune (HRS.out r (by rw [hsp]; simp))
        have hdrop : s.drop (Pl.enes l1).length = Pl.enc r ++ Pl.enes l2 := by
          rw [HSE.out, hsp, Pl.enes_app, List.drop_left, Pl.enes_cons]
        have hpos := Pl.enc_pos r
        have hklt : (Pl.enes l1).length < s.length := by
          have := congrArg List.length hdrop
          simp at this; omega
        have hdec : Utf8.decode (mk s) (Pl.enes l1).length = (r, (Pl.enc r).length) := Pl.decode_enc s _ _ r hr hdrop
        have hnx := next_any (P := Tryz.prog) HIT.out hklt
        rw [hdec] at hnx
        simp only at hnx
        have hlen6 := escs_len (Pl.enes l1)
        have hlenr := Pl.enc_le r
        have hlr := escs_len (Pl.enc r)
        have hit2 := Lib.iterAt_heap wr ib (mk s) (Pl.enes l1).length ((Pl.enes l1).length + (Pl.enc r).length) HIT.out
        have hni : NoIter wr (wr.iterAt ib (mk s) ((Pl.enes l1).length + (Pl.enc r).length)) := iterAt_noIter (k := 0) HIT.out
        have hup3 := up_iterAt HUP.out (k := ib) (by have := HIB.out; omega) (mk s) ((Pl.enes l1).length + (Pl.enc r).length)
        have HWR3 := Lib.hid (Bld.noIter HWR.out hni)
        have HTAB3 := Lib.hid (HTAB.out.noIter hni)
        have HITP := Lib.hid (iterPos_eq HIT.out)
        have hne : w.heap.size ≠ ib := by have := HIB.out; omega
        have hin3 : w.heap.size < (wr.iterAt ib (mk s) ((Pl.enes l1).length + (Pl.enc r).length)).heap.size := by simpa [World.iterAt] using hin
        generalize wr.iterAt ib (mk s) ((Pl.enes l1).length + (Pl.enc r).length) = W3 at *
        have HIT3 := Lib.hid hit2
        have HUP3 := Lib.hid hup3
        have hlen1 : (Pl.enes l1).length ≤ 1000000000000 := by omega
        have hr2 := Pl.enc_lt hr
        clear hit2 hup3 hni hdrop hdec HIT HWR HTAB HUP
        have HSP := Lib.hid hsp
        clear hsp
        go_wp2_with fail
        refine (escaped_any tb (r : Int) W3 HTAB3.out (by omega) (by omega)).mono ?_
        rintro e w4 ⟨rfl, hu4⟩
        have hwr4 := Bld.up HWR3.out hu4
        have htab4 := HTAB3.out.up hu4
        have hit4 := (hu4.block ib (Array.getElem?_eq_some_iff.1 HIT3.out).1).trans HIT3.out
        have hup4 := HUP3.out.trans hu4
        have hin4 : w.heap.size < w4.heap.size := Nat.lt_of_lt_of_le hin3 hu4.size
        have HWR4 := Lib.hid hwr4
        have HTAB4 := Lib.hid htab4
        have HIT4 := Lib.hid hit4
        have HUP4 := Lib.hid hup4
        clear hwr4 htab4 hit4 hup4 HWR3 HTAB3 HIT3 HUP3 hu4 hnx
        have henc : Utf8.encode (r : Int) = mk (Pl.enc r) := Pl.encode_enc r hr
        rcases escV_cases r hr with ⟨x, hx, hxe⟩ | ⟨hx, hxe⟩
        · rw [hx]
          have HXE := Lib.hid hxe
          clear hx hxe
          go_wp2_with fail
          refine (write_one w.heap.size w.heap.size w4.heap.size (Pl.escs (Pl.enes l1)) x _ ?len (by simp; omega) (Bld.up HWR4.out ((Up.self _).alloc _)) (by omega) (heap_new rfl)).mono ?_
          case len => rw [HXE.out] at hlr; omega
          rintro e w5 ⟨rfl, hwr5, hbel5, hoth5, hs5⟩
          obtain ⟨cb, hcb⟩ := Bld.cells (Bld.up HWR4.out ((Up.self w4).alloc (.cells #[.string (mk x)] 9)))
          have htab5 := TableAt.others (HTAB4.out.up ((Up.self w4).alloc (.cells #[.string (mk x)] 9))) hoth5 hcb (by decide) (by decide)
          have hit5 := hoth5 ib _ ((Below.heap_alloc _ _ _ (Array.getElem?_eq_some_iff.1 HIT4.out).1).trans HIT4.out) (by simpa using Ne.symm hne) (by simp)
          have hup5 : Up w w5 := Below.trans (HUP4.out.alloc _) hbel5
          have hin5 : w.heap.size < w5.heap.size := Nat.lt_of_lt_of_le hin4 (Nat.le_trans (by simp) hs5)
          have HWR5 := Lib.hid hwr5
          have HTAB5 := Lib.hid htab5
          have HIT5 := Lib.hid hit5
          have HUP5 := Lib.hid hup5
          clear hwr5 htab5 hit5 hup5 hbel5 hoth5 hs5 hcb
          go_wp2_with fail
          go_roundw
          case rel =>
            refine ⟨l1 ++ [r], l2, by rw [HSP.out]; simp, ?_, ?_, HTAB5.out, HUP5.out, hin5⟩
            · rw [Pl.enes_app, List.length_append, show Pl.enes [r] = Pl.enc r from by simp [Pl.enes]]; exact HIT5.out
            · rw [Pl.enes_app, Pl.escs_app, show Pl.enes [r] = Pl.enc r from by simp [Pl.enes], HXE.out]; exact HWR5.out
          case measure =>
            rw [HITP.out, iterPos_eq HIT5.out]; omega
        · rw [hx]
          have HXE := Lib.hid hxe
          clear hx hxe
          go_wp2_with fail
          refine (write_one w.heap.size w.heap.size w4.heap.size (Pl.escs (Pl.enes l1)) (Pl.enc r) _ ?len (by simp; omega) (Bld.up HWR4.out ((Up.self _).alloc _)) (by omega) (heap_new rfl)).mono ?_
          case len => omega
          rintro e w5 ⟨rfl, hwr5, hbel5, hoth5, hs5⟩
          obtain ⟨cb, hcb⟩ := Bld.cells (Bld.up HWR4.out ((Up.self w4).alloc (.cells #[.string (mk (Pl.enc r))] 9)))
          have htab5 := TableAt.others (HTAB4.out.up ((Up.self w4).alloc (.cells #[.string (mk (Pl.enc r))] 9))) hoth5 hcb (by decide) (by decide)
          have hit5 := hoth5 ib _ ((Below.heap_alloc _ _ _ (Array.getElem?_eq_some_iff.1 HIT4.out).1).trans HIT4.out) (by simpa using Ne.symm hne) (by simp)
          have hup5 : Up w w5 := Below.trans (HUP4.out.alloc _) hbel5
          have hin5 : w.heap.size < w5.heap.size := Nat.lt_of_lt_of_le hin4 (Nat.le_trans (by simp) hs5)
          have HWR5 := Lib.hid hwr5
          have HTAB5 := Lib.hid htab5
          have HIT5 := Lib.hid hit5
          have HUP5 := Lib.hid hup5
          clear hwr5 htab5 hit5 hup5 hbel5 hoth5 hs5 hcb
          go_wp2_with fail
          go_roundw
          case rel =>
            refine ⟨l1 ++ [r], l2, by rw [HSP.out]; simp, ?_, ?_, HTAB5.out, HUP5.out, hin5⟩
            · rw [Pl.enes_app, List.length_append, show Pl.enes [r] = Pl.enc r from by simp [Pl.enes]]; exact HIT5.out
            · rw [Pl.enes_app, Pl.escs_app, show Pl.enes [r] = Pl.enc r from by simp [Pl.enes], HXE.out]; exact HWR5.out
          case measure =>
            rw [HITP.out, iterPos_eq HIT5.out]; omega
end Go.Proofs.YtckfgkmfeklcmaaGreatDoor

/- Escapes: Put; its answer alone. -/
namespace Go.Proofs.YtckfgkmfeklcmaaGreatDoor
open Go.RowKit Go.Shelf
attribute [local go_sem] Oper.semAt_some

def ePutV (s : List UInt8) : Value := match Pl.put s with | some t => .tuple #[.string (mk t), .int .i64 0] | none => .tuple #[.string (mk []), .int .i64 20]
theorem ePutV_t {s : List UInt8} (h : Pl.isText s = true) : ePutV s = .tuple #[.string (mk (Pl.escs s)), .int .i64 0] := by unfold ePutV Pl.put; rw [if_pos h]
theorem ePutV_f {s : List UInt8} (h : Pl.isText s = false) : ePutV s = .tuple #[.string (mk []), .int .i64 20] := by unfold ePutV Pl.put; rw [if_neg (by rw [h]; decide)]

set_option maxRecDepth 100000 in
set_option maxHeartbeats 1600000 in
theorem ePut_any (s : List UInt8) (w : World) (hs : s.length ≤ 1000000000000) :
    Calls Tryz.prog 27 #[.string (mk s)] w fun e w' => e = .returned (ePutV s) ∧ Up w w' := by
  go_enter Tryz.func27, Tryz.ntmps27
  go_wp2_with fail
  refine (eput_any s _ hs).mono ?_
  rintro e w1 ⟨rfl, hwr, hup⟩
  have HWR := Lib.hid hwr
  have HUP := Lib.hid hup
  clear hwr hup
  cases ht : Pl.isText s
  · have HT := Lib.hid ht
    rw [putV_eq ht]
    clear ht
    go_wp2_with fail
    go_ret2
    exact ⟨by rw [ePutV_f HT.out]; rfl, HUP.out⟩
  · have HT := Lib.hid ht
    rw [putV_eq ht]
    have hl : putL s = Pl.escs s := by unfold putL; rw [ht]; rfl
    have HL := Lib.hid hl
    clear ht hl
    go_wp2_with fail
    refine (string_any w.heap.size w.heap.size 95 _ _ w1 HUP.out.size HWR.out).mono ?_
    rintro e w2 ⟨rfl, hb, ho⟩
    rw [HL.out]
    go_wp2_with fail
    go_ret2
    exact ⟨by rw [ePutV_t HT.out]; rfl, Below.trans HUP.out hb⟩

set_option maxRecDepth 100000 in
set_option maxHeartbeats 1600000 in
theorem tokEscaped_any (s : List UInt8) (w : World) (hs : s.length ≤ 1000000000000) :
    Calls Tryz.prog 18 #[.string (mk s)] w fun e w' => e = .returned (.string (mk (Pl.escaped s))) ∧ Up w w' := by
  obtain ⟨t, n, ht, he⟩ : ∃ t n, ePutV s = .tuple #[.string (mk t), .int .i64 n] ∧ Pl.escaped s = t := by
    unfold ePutV Pl.escaped
    cases Pl.put s with
    | some t => exact ⟨t, 0, rfl, rfl⟩
    | none => exact ⟨[], 20, rfl, rfl⟩
  have HE := Lib.hid he
  have HT := Lib.hid ht
  clear he ht
  go_enter Tryz.func18, Tryz.ntmps18
  go_wp2_with fail
  refine (ePut_any s _ hs).mono ?_
  rintro e w1 ⟨rfl, hup⟩
  rw [HT.out]
  go_wp2_with fail
  go_ret
  exact ⟨by rw [HE.out]; rfl, hup⟩
end Go.Proofs.YtckfgkmfeklcmaaGreatDoor
