/- The texts Once, UtfD of this claim in one: the walks and plain laws that the statement's proof rests on. -/
import Derived.Test.YtckfgkmfeklcmaaGreatDoorGB
import Derived.Laws.Pointers
import Derived.Laws.LoneSync
import Derived.RegionCalls
import Derived.ChangeAlike
import Derived.Defers
import Derived.Shelf.Abstract
set_option linter.unusedVariables false
set_option linter.unusedSimpArgs false
/- sync.Once, not yet done, in one goroutine: its slow road, over whatever function is handed to it (turned from the guide's worked toy 'lazy'). -/
namespace Go.Proofs.YtckfgkmfeklcmaaGreatDoor
open Go.RowKit

theorem race_disable (w : World) : (callFunc 174 #[]).run Tryz.prog w = .ok (.value (.tuple #[])) w := run_call_mark0 Tryz.func174 (by kernel_rfl) (by kernel_rfl) (by kernel_rfl) .disable (by kernel_rfl) w
theorem race_enable (w : World) : (callFunc 176 #[]).run Tryz.prog w = .ok (.value (.tuple #[])) w := run_call_mark0 Tryz.func176 (by kernel_rfl) (by kernel_rfl) (by kernel_rfl) .enable (by kernel_rfl) w
theorem race_acquire (a : Addr) (w : World) : (callFunc 177 #[.pointer (some a)]).run Tryz.prog w = .ok (.value (.tuple #[])) w := run_call_marked Tryz.func177 (by kernel_rfl) (by kernel_rfl) (by kernel_rfl) .acquire (by kernel_rfl) a w
theorem race_releaseMerge (a : Addr) (w : World) : (callFunc 179 #[.pointer (some a)]).run Tryz.prog w = .ok (.value (.tuple #[])) w := run_call_marked Tryz.func179 (by kernel_rfl) (by kernel_rfl) (by kernel_rfl) .releaseMerge (by kernel_rfl) a w

theorem store_deferred (a : Addr) (x : Value) (u : FrameMode) (w : World) (hc : w.cell? a = some x) (hz : w.frozen? a = false) :
    CallsD Tryz.prog 147 #[.pointer (some a), .bool true] u w fun e u' w' => u' = u ∧ (e = .returned (.tuple #[]) ∧ w' = w.drew.setCell a (.int .u32 1)) := by
  have hc' : w.drew.cell? a = some x := by go_simp
  have hz' : w.drew.frozen? a = false := by go_simp
  have hst := run_call_store (P := Tryz.prog) Tryz.func167 (by kernel_rfl) (by kernel_rfl) (by kernel_rfl) (by kernel_rfl) (k := .u32) (y := 1) hc' hz'
  go_enter_d Tryz.func147, Tryz.ntmps147
  go_wp2
  go_region_calls
  all_goals (go_end0; exact ⟨rfl, rfl⟩)

set_option maxRecDepth 100000 in
set_option maxHeartbeats 1600000 in
theorem unlock_deferred (a : Addr) (u : FrameMode) (w : World) (hc : w.cell? a = some (.int .i32 1)) (hz : w.frozen? a = false) :
    CallsD Tryz.prog 146 #[.pointer (some a)] u w fun e u' w' => u' = u ∧ (e = .returned (.tuple #[]) ∧ w' = w.setCell a (.int .i32 0)) := by
  have hd := race_disable
  have he := race_enable
  have hr := race_releaseMerge
  have hadd := run_call_add (P := Tryz.prog) Tryz.func180 (by kernel_rfl) (by kernel_rfl) (by kernel_rfl) .i32 (by kernel_rfl) (y := -1) (s := 0) hc hz (by simp [go_sem]; rfl)
  have hcv := run_convert_to_unsafe (P := Tryz.prog) (src := 256) (dst := 72) Tryz.underlying256 Tryz.underlying72 (by kernel_rfl) hc
  go_enter_d Tryz.func146, Tryz.ntmps146
  go_wp2
  go_end0
  go_wp2
  go_end0
  exact ⟨rfl, rfl⟩

set_option maxRecDepth 100000 in
set_option maxHeartbeats 1600000 in
theorem lock_free (a : Addr) (w : World) (hc : w.cell? a = some (.int .i32 0)) (hz : w.frozen? a = false) :
    Calls Tryz.prog 145 #[.pointer (some a)] w fun e w' => e = .returned (.tuple #[]) ∧ w' = w.setCell a (.int .i32 1) := by
  have hd := race_disable
  have he := race_enable
  have ha := race_acquire
  have hcas := run_call_cas_hit (P := Tryz.prog) Tryz.func175 (by kernel_rfl) (by kernel_rfl) (by kernel_rfl) .i32 (by kernel_rfl) (y := 1) hc hz
  have hc' : (w.setCell a (.int .i32 1)).cell? a = some (.int .i32 1) := World.cell?_setCell_same w a _ hc
  have hcv := run_convert_to_unsafe (P := Tryz.prog) (src := 256) (dst := 72) Tryz.underlying256 Tryz.underlying72 (by kernel_rfl) hc'
  go_enter Tryz.func145, Tryz.ntmps145
  go_wp2
  first | go_end0 | (simp only [Exit.inBlock, Exit.then]; refine bodyPost_ret (results_none rfl _ _ _) rfl ?_) | refine bodyPost_ret (results_none rfl _ _ _) rfl ?_
  go_wp2
  go_end0
  exact ⟨rfl, rfl⟩

/-- what the function that is handed to Once must leave: the Once as it was -/
def OnceHeld (b : Nat) (w : World) : Prop :=
  w.cell? ⟨b, 0, none⟩ = some (.int .u32 0) ∧ w.cell? ⟨b, 1, none⟩ = some (.int .i32 1) ∧ w.frozen? ⟨b, 0, none⟩ = false ∧ w.frozen? ⟨b, 1, none⟩ = false

set_option maxRecDepth 100000 in
set_option maxHeartbeats 1600000 in
theorem slow_any (K b : Nat) (cap : Value) (R : World → Prop) (w : World) (hent : ∀ args w, (callFunc K args).run Tryz.prog w = .ok (.enter K args) w)
    (h0 : w.cell? ⟨b, 0, none⟩ = some (.int .u32 0)) (h1 : w.cell? ⟨b, 1, none⟩ = some (.int .i32 0)) (f0 : w.frozen? ⟨b, 0, none⟩ = false) (f1 : w.frozen? ⟨b, 1, none⟩ = false)
    (hK : Calls Tryz.prog K #[cap] (w.setCell ⟨b, 1, none⟩ (.int .i32 1)) fun e w' => e = .returned (.tuple #[]) ∧ R w') (hR : ∀ w', R w' → OnceHeld b w') :
    Calls Tryz.prog 116 #[.pointer (some ⟨b, 0, none⟩), .func (.func K) #[] #[cap]] w fun e w' => e = .returned (.tuple #[]) ∧ ∃ w2, R w2 ∧ w' = (w2.drew.setCell ⟨b, 0, none⟩ (.int .u32 1)).setCell ⟨b, 1, none⟩ (.int .i32 0) := by
  have hl := run_call_load (P := Tryz.prog) Tryz.func144 (by kernel_rfl) (by kernel_rfl) (by kernel_rfl) .u32 (by kernel_rfl) (w := w.setCell ⟨b, 1, none⟩ (.int .i32 1)) (a := ⟨b, 0, none⟩) (x := 0) ((World.cell?_setCell_other _ ⟨b, 1, none⟩ ⟨b, 0, none⟩ _ (by simp)).trans h0)
  have hnot : ∀ (x : Bool) (w : World), (Op.unary .not (.bool x)).run Tryz.prog w = .ok (.bool (!x)) w := fun _ _ => rfl
  have HK := Lib.hid hK
  have HR := Lib.hid hR
  clear hK hR
  go_enter_defers Tryz.func116, Tryz.ntmps116
  go_wp2_with (go_at_call 145; refine (lock_free ⟨b, 1, none⟩ _ (by go_simp) (by go_simp)).mono ?_; rintro e w' ⟨rfl, rfl⟩)
  go_wp2
  refine HK.out.mono ?_
  rintro e w2 ⟨rfl, hr2⟩
  obtain ⟨c0, c1, z0, z1⟩ := HR.out w2 hr2
  have HR2 := Lib.hid hr2
  clear hr2
  go_wp2
  refine leaves_cons (f := 147) (args := #[.pointer (some ⟨b, 0, none⟩), .bool true]) (by simp) (by simp [go_sem]) ?_
  refine (store_deferred ⟨b, 0, none⟩ (.int .u32 0) .returning _ c0 z0).mono ?_
  rintro e u' w'' ⟨rfl, rfl, rfl⟩
  refine leaves_cons (f := 146) (args := #[.pointer (some ⟨b, 1, none⟩)]) (by simp [settle]) (by simp [go_sem]) ?_
  refine (unlock_deferred ⟨b, 1, none⟩ _ _ ?_ (by simp [z1])).mono ?_
  · refine (World.cell?_setCell_other _ ⟨b, 0, none⟩ ⟨b, 1, none⟩ _ (by simp)).trans ?_
    rw [World.cell?_drew]
    exact c1
  rintro e u' w'' ⟨rfl, rfl, rfl⟩
  simp [Leaves, settle, results, Tryz.results116]
  exact ⟨w2, HR2.out, rfl⟩

set_option maxRecDepth 100000 in
set_option maxHeartbeats 1600000 in
theorem once_first (K b : Nat) (cap : Value) (R : World → Prop) (w : World) (hent : ∀ args w, (callFunc K args).run Tryz.prog w = .ok (.enter K args) w)
    (h0 : w.cell? ⟨b, 0, none⟩ = some (.int .u32 0)) (h1 : w.cell? ⟨b, 1, none⟩ = some (.int .i32 0)) (f0 : w.frozen? ⟨b, 0, none⟩ = false) (f1 : w.frozen? ⟨b, 1, none⟩ = false)
    (hK : Calls Tryz.prog K #[cap] (w.setCell ⟨b, 1, none⟩ (.int .i32 1)) fun e w' => e = .returned (.tuple #[]) ∧ R w') (hR : ∀ w', R w' → OnceHeld b w') :
    Calls Tryz.prog 93 #[.pointer (some ⟨b, 0, none⟩), .func (.func K) #[] #[cap]] w fun e w' => e = .returned (.tuple #[]) ∧ ∃ w2, R w2 ∧ w' = (w2.drew.setCell ⟨b, 0, none⟩ (.int .u32 1)).setCell ⟨b, 1, none⟩ (.int .i32 0) := by
  have hl := run_call_load (P := Tryz.prog) Tryz.func144 (by kernel_rfl) (by kernel_rfl) (by kernel_rfl) .u32 (by kernel_rfl) h0
  have hnot : ∀ (x : Bool) (w : World), (Op.unary .not (.bool x)).run Tryz.prog w = .ok (.bool (!x)) w := fun _ _ => rfl
  have HS := Lib.hid (slow_any K b cap R w hent h0 h1 f0 f1 hK hR)
  clear hK hR hent
  go_enter Tryz.func93, Tryz.ntmps93
  go_wp2_with (first | (go_at_call 116; refine HS.out.mono ?_; rintro e w' ⟨rfl, hw2⟩; have HW := Lib.hid hw2; clear hw2) | (go_at_call 115; go_in))
  go_end0
  exact ⟨rfl, HW.out⟩
end Go.Proofs.YtckfgkmfeklcmaaGreatDoor

/- The classes of runes. -/
namespace Go.Proofs.YtckfgkmfeklcmaaGreatDoor
open Go.RowKit

def charL : List (Int × Int) := [(9, 10), (13, 13), (32, 55295), (57344, 65533), (65536, 1114111)]
def firstL : List (Int × Int) := [(58, 58), (65, 90), (95, 95), (97, 122), (192, 214), (216, 246), (248, 767), (880, 893), (895, 8191), (8204, 8205), (8304, 8591), (11264, 12271), (12289, 55295), (63744, 64975), (65008, 65533), (65536, 983039)]
def furtherL : List (Int × Int) := [(45, 46), (48, 57), (183, 183), (768, 879), (8255, 8256)]
def spanCells (l : List (Int × Int)) : Array Value := (l.flatMap fun x => [Value.int .i32 x.1, Value.int .i32 x.2]).toArray
def okSpans (l : List (Int × Int)) : Bool := l.all fun x => decide (-2147483648 ≤ x.1) && decide (x.1 ≤ 2147483647) && decide (-2147483648 ≤ x.2) && decide (x.2 ≤ 2147483647)

theorem spanCells_at (l : List (Int × Int)) : ∀ j, j < l.length → (spanCells l)[j * 2]? = some (.int .i32 (l.getD j (0, 0)).1) ∧ (spanCells l)[j * 2 + 1]? = some (.int .i32 (l.getD j (0, 0)).2) := by
  unfold spanCells
  induction l with
  | nil => intro j h; simp at h
  | cons x l ih =>
    intro j h
    cases j with
    | zero => simp
    | succ j =>
      have := ih j (by simpa using h)
      simp only [List.flatMap_cons, List.cons_append, List.nil_append, List.getElem?_toArray, List.getD_cons_succ] at this ⊢
      rw [show (j + 1) * 2 = j * 2 + 1 + 1 by omega, List.getElem?_cons_succ, List.getElem?_cons_succ, List.getElem?_cons_succ, List.getElem?_cons_succ]
      exact this
theorem spans_of {w : World} {b : Nat} {l : List (Int × Int)} {e : TypeId} (h : w.heap[b]? = some (.cells (spanCells l) e (0, 0))) (hl : okSpans l = true) : Spans w b l := by
  refine ⟨(Array.getElem?_eq_some_iff.1 h).1, fun j hj => ?_⟩
  have hc := spanCells_at l j hj
  refine ⟨⟨by simp [World.cell?, h, hc.1], by simp [World.cell?, h, hc.2]⟩, ?_⟩
  have hm : l.getD j (0, 0) ∈ l := by simp [List.getD, hj]
  have := List.all_eq_true.1 hl _ hm
  simp only [Bool.and_eq_true, decide_eq_true_eq] at this
  exact ⟨this.1.1.1, this.1.1.2, this.1.2, this.2⟩

/-- a classes object that has been filled -/
def ClassesAt (w : World) (g : Nat) : Prop :=
  ∃ b1 b2 b3, w.cell? ⟨g, 3, none⟩ = some (.slice (some ⟨b1, 0, none⟩) 5 5) ∧ w.cell? ⟨g, 4, none⟩ = some (.slice (some ⟨b2, 0, none⟩) 16 16) ∧ w.cell? ⟨g, 5, none⟩ = some (.slice (some ⟨b3, 0, none⟩) 5 5) ∧
    Spans w b1 charL ∧ Spans w b2 firstL ∧ Spans w b3 furtherL ∧ b1 ≠ g ∧ b2 ≠ g ∧ b3 ≠ g

/-- the world behind the filling -/
def ufilled (w : World) (b : Nat) : World :=
  (((((w.setCell ⟨b, 3, none⟩ (.slice (some ⟨w.heap.size, 0, none⟩) 5 5)).setCell ⟨b, 4, none⟩ (.slice (some ⟨w.heap.size + 1, 0, none⟩) 16 16)).setCell ⟨b, 5, none⟩ (.slice (some ⟨w.heap.size + 1 + 1, 0, none⟩) 5 5)).alloc
    (.cells (spanCells charL) 213)).alloc (.cells (spanCells firstL) 213)).alloc (.cells (spanCells furtherL) 213)

set_option maxRecDepth 100000 in
set_option maxHeartbeats 1600000 in
theorem ufill1_any (b p : Nat) (w : World) (hbp : b ≠ p) (hp : w.cell? ⟨p, 0, none⟩ = some (.pointer (some ⟨b, 0, none⟩))) (h3 : w.cell? ⟨b, 3, none⟩ = some (.slice none 0 0)) (h4 : w.cell? ⟨b, 4, none⟩ = some (.slice none 0 0)) (h5 : w.cell? ⟨b, 5, none⟩ = some (.slice none 0 0))
    (f3 : w.frozen? ⟨b, 3, none⟩ = false) (f4 : w.frozen? ⟨b, 4, none⟩ = false) (f5 : w.frozen? ⟨b, 5, none⟩ = false) (hb : b < w.heap.size) (hpl : p < w.heap.size) :
    Calls Tryz.prog 151 #[.pointer (some ⟨p, 0, none⟩)] w fun e w' => e = .returned (.tuple #[]) ∧ w' = ufilled w b := by
  have hb1 : b < w.heap.size + 1 := by omega
  have hb2 : b < w.heap.size + 1 + 1 := by omega
  have hb3 : b < w.heap.size + 1 + 1 + 1 := by omega
  have hp1 : p < w.heap.size + 1 := by omega
  have hp2 : p < w.heap.size + 1 + 1 := by omega
  go_enter Tryz.func151, Tryz.ntmps151
  go_wp2
  go_end0
  exact ⟨rfl, rfl⟩

theorem cell_kept_set {w : World} {b i : Nat} {v : Value} {p : Addr} (h : p ≠ ⟨b, i, none⟩) : (w.setCell ⟨b, i, none⟩ v).cell? p = w.cell? p := World.cell?_setCell_other w ⟨b, i, none⟩ p v (fun e => h e.symm)

theorem ufilled_cell (w : World) (b : Nat) (p : Addr) (hp : p.block < w.heap.size) (h3 : p ≠ ⟨b, 3, none⟩) (h4 : p ≠ ⟨b, 4, none⟩) (h5 : p ≠ ⟨b, 5, none⟩) : (ufilled w b).cell? p = w.cell? p := by
  unfold ufilled
  rw [World.cell?_alloc_lt _ _ p (by simp; omega), World.cell?_alloc_lt _ _ p (by simp; omega), World.cell?_alloc_lt _ _ p (by simp; omega), cell_kept_set h5, cell_kept_set h4, cell_kept_set h3]
theorem ufilled_frozen (w : World) (b : Nat) (p : Addr) (hp : p.block < w.heap.size) : (ufilled w b).frozen? p = w.frozen? p := by
  unfold ufilled
  rw [World.frozen?_alloc_old _ _ p (by simp; omega), World.frozen?_alloc_old _ _ p (by simp; omega), World.frozen?_alloc_old _ _ p (by simp; omega)]
  simp
theorem ufilled_classes (w : World) (b : Nat) (hb : b < w.heap.size) (h3 : w.cell? ⟨b, 3, none⟩ = some (.slice none 0 0)) (h4 : w.cell? ⟨b, 4, none⟩ = some (.slice none 0 0)) (h5 : w.cell? ⟨b, 5, none⟩ = some (.slice none 0 0)) : ClassesAt (ufilled w b) b := by
  refine ⟨w.heap.size, w.heap.size + 1, w.heap.size + 1 + 1, ?_, ?_, ?_, ?_, ?_, ?_, by omega, by omega, by omega⟩
  · unfold ufilled
    rw [World.cell?_alloc_lt _ _ _ (by simp; omega), World.cell?_alloc_lt _ _ _ (by simp; omega), World.cell?_alloc_lt _ _ _ (by simp; omega), cell_kept_set (by simp), cell_kept_set (by simp)]
    exact World.cell?_setCell_same _ _ _ h3
  · unfold ufilled
    rw [World.cell?_alloc_lt _ _ _ (by simp; omega), World.cell?_alloc_lt _ _ _ (by simp; omega), World.cell?_alloc_lt _ _ _ (by simp; omega), cell_kept_set (by simp)]
    exact World.cell?_setCell_same _ _ _ (by rw [cell_kept_set (by simp)]; exact h4)
  · unfold ufilled
    rw [World.cell?_alloc_lt _ _ _ (by simp; omega), World.cell?_alloc_lt _ _ _ (by simp; omega), World.cell?_alloc_lt _ _ _ (by simp; omega)]
    exact World.cell?_setCell_same _ _ _ (by rw [cell_kept_set (by simp), cell_kept_set (by simp)]; exact h5)
  · exact spans_of (e := 213) (by unfold ufilled; rw [Below.heap_alloc _ _ _ (by simp; omega), Below.heap_alloc _ _ _ (by simp)]; exact heap_new (by simp)) (by decide)
  · exact spans_of (e := 213) (by unfold ufilled; rw [Below.heap_alloc _ _ _ (by simp)]; exact heap_new (by simp)) (by decide)
  · exact spans_of (e := 213) (by unfold ufilled; exact heap_new (by simp)) (by decide)
theorem Spans.set {w : World} {b c i : Nat} {v : Value} {xs : List (Int × Int)} (h : Spans w c xs) (hne : c ≠ b) : Spans (w.setCell ⟨b, i, none⟩ v) c xs :=
  ⟨by simpa using h.1, fun j hj => ⟨⟨by rw [cell_kept_set (by simp [hne])]; exact (h.2 j hj).1.1, by rw [cell_kept_set (by simp [hne])]; exact (h.2 j hj).1.2⟩, (h.2 j hj).2⟩⟩
theorem Spans.drew {w : World} {c : Nat} {xs : List (Int × Int)} (h : Spans w c xs) : Spans w.drew c xs := h
theorem ClassesAt.set {w : World} {b i : Nat} {v : Value} (h : ClassesAt w b) (hi : i < 3) : ClassesAt (w.setCell ⟨b, i, none⟩ v) b := by
  obtain ⟨b1, b2, b3, h3, h4, h5, s1, s2, s3, n1, n2, n3⟩ := h
  exact ⟨b1, b2, b3, by rw [cell_kept_set (by simp <;> omega)]; exact h3, by rw [cell_kept_set (by simp <;> omega)]; exact h4, by rw [cell_kept_set (by simp <;> omega)]; exact h5, s1.set n1, s2.set n2, s3.set n3, n1, n2, n3⟩
theorem ClassesAt.drew {w : World} {b : Nat} (h : ClassesAt w b) : ClassesAt w.drew b := h
theorem ufilled_up (w : World) (b B : Nat) (hB : B ≤ b) (hb : b < w.heap.size) : Below B w (ufilled w b) := by
  unfold ufilled
  exact (((((((Below.refl B w).setCell (p := ⟨b, 3, none⟩) hB _).setCell (p := ⟨b, 4, none⟩) hB _).setCell (p := ⟨b, 5, none⟩) hB _).alloc (by simp; omega) _).alloc (by simp; omega) _).alloc (by simp; omega) _)

theorem Tryz.enters_ufill (args : Array Value) (w : World) : (callFunc 151 args).run Tryz.prog w = .ok (.enter 151 args) w := enters_of Tryz.func151 (by kernel_rfl) rfl args w

/-- a new classes object -/
def clsNew : Obj := .cells #[.int .u32 0, .int .i32 0, .int .u32 0, .slice none 0 0, .slice none 0 0, .slice none 0 0] 180

theorem cell_of_block {w : World} {b : Nat} {c : Array Value} {T : TypeId} (h : w.heap[b]? = some (.cells c T (0, 0))) (j : Nat) : w.cell? ⟨b, j, none⟩ = c[j]? := by simp [World.cell?, h]
theorem frozen_of_block {w : World} {b : Nat} {c : Array Value} {T : TypeId} (h : w.heap[b]? = some (.cells c T (0, 0))) (j : Nat) : w.frozen? ⟨b, j, none⟩ = false := by simp [World.frozen?, h]
theorem lt_of_block {w : World} {b : Nat} {o : Obj} (h : w.heap[b]? = some o) : b < w.heap.size := (Array.getElem?_eq_some_iff.1 h).1

theorem run_makeFunc {P : Program} (fn : Fn) (first cap : Array Value) (w : World) : (Instr.makeFunc fn first cap).run P w = .ok (.func fn first cap) w := rfl

/-- the world behind the first Do -/
def uworld (w1 : World) (b : Nat) : World := ((ufilled (w1.setCell ⟨b, 1, none⟩ (.int .i32 1)) b).drew.setCell ⟨b, 0, none⟩ (.int .u32 1)).setCell ⟨b, 1, none⟩ (.int .i32 0)
theorem uworld_up {w1 : World} {b : Nat} (hb : b < w1.heap.size) : Below b w1 (uworld w1 b) := by
  have hb' : b < (w1.setCell ⟨b, 1, none⟩ (.int .i32 1)).heap.size := by simpa using hb
  exact (((((Below.refl b w1).setCell (p := ⟨b, 1, none⟩) (Nat.le_refl _) _).trans (ufilled_up _ b b (Nat.le_refl _) hb')).drew).setCell (p := ⟨b, 0, none⟩) (Nat.le_refl _) _).setCell (p := ⟨b, 1, none⟩) (Nat.le_refl _) _
theorem uworld_classes {w1 : World} {b : Nat} (hc : w1.heap[b]? = some clsNew) : ClassesAt (uworld w1 b) b := by
  have hb := lt_of_block hc
  have hb' : b < (w1.setCell ⟨b, 1, none⟩ (.int .i32 1)).heap.size := by simpa using hb
  have h := ufilled_classes (w1.setCell ⟨b, 1, none⟩ (.int .i32 1)) b hb' (by rw [cell_kept_set (by simp)]; exact cell_of_block hc 3) (by rw [cell_kept_set (by simp)]; exact cell_of_block hc 4) (by rw [cell_kept_set (by simp)]; exact cell_of_block hc 5)
  exact (h.drew.set (by omega)).set (by omega)
theorem uworld_cell {w1 : World} {b p : Nat} (hne : p ≠ b) (hp : p < w1.heap.size) : (uworld w1 b).cell? ⟨p, 0, none⟩ = w1.cell? ⟨p, 0, none⟩ := by
  have hp' : p < (w1.setCell ⟨b, 1, none⟩ (.int .i32 1)).heap.size := by simpa using hp
  unfold uworld
  rw [cell_kept_set (by simp [hne]), cell_kept_set (by simp [hne]), World.cell?_drew, ufilled_cell _ _ _ hp' (by simp [hne]) (by simp [hne]) (by simp [hne]), cell_kept_set (by simp [hne])]

theorem uonce (b p : Nat) (w1 : World) (hc1 : w1.heap[b]? = some clsNew) (hne : p ≠ b) (hp1 : w1.cell? ⟨p, 0, none⟩ = some (.pointer (some ⟨b, 0, none⟩))) :
    Calls Tryz.prog 93 #[.pointer (some ⟨b, 0, none⟩), .func (.func 151) #[] #[.pointer (some ⟨p, 0, none⟩)]] w1 fun e w' => e = .returned (.tuple #[]) ∧ w' = uworld w1 b := by
  have hb := lt_of_block hc1
  have hp := lt_of_cell hp1
  have hb' : b < (w1.setCell ⟨b, 1, none⟩ (.int .i32 1)).heap.size := by simpa using hb
  have hp' : p < (w1.setCell ⟨b, 1, none⟩ (.int .i32 1)).heap.size := by simpa using hp
  have z := frozen_of_block hc1
  refine (once_first 151 b (.pointer (some ⟨p, 0, none⟩)) (fun w' => w' = ufilled (w1.setCell ⟨b, 1, none⟩ (.int .i32 1)) b) w1 Tryz.enters_ufill (cell_of_block hc1 0) (cell_of_block hc1 1) (z 0) (z 1)
    (ufill1_any b p (w1.setCell ⟨b, 1, none⟩ (.int .i32 1)) (fun e => hne e.symm) (by rw [cell_kept_set (by simp [hne])]; exact hp1) (by rw [cell_kept_set (by simp)]; exact cell_of_block hc1 3) (by rw [cell_kept_set (by simp)]; exact cell_of_block hc1 4) (by rw [cell_kept_set (by simp)]; exact cell_of_block hc1 5)
      (by simp [z]) (by simp [z]) (by simp [z]) hb' hp') ?_).mono ?_
  · rintro w' rfl
    refine ⟨?_, ?_, ?_, ?_⟩
    · rw [ufilled_cell _ _ _ hb' (by simp) (by simp) (by simp), cell_kept_set (by simp)]; exact cell_of_block hc1 0
    · rw [ufilled_cell _ _ _ hb' (by simp) (by simp) (by simp)]; exact World.cell?_setCell_same _ _ _ (cell_of_block hc1 1)
    · rw [ufilled_frozen _ _ _ hb']; simp [z]
    · rw [ufilled_frozen _ _ _ hb']; simp [z]
  · rintro e w' ⟨rfl, w2, rfl, rfl⟩
    exact ⟨rfl, rfl⟩

set_option maxRecDepth 100000 in
set_option maxHeartbeats 1600000 in
theorem ufill_any (b : Nat) (w : World) (hc : w.heap[b]? = some clsNew) :
    Calls Tryz.prog 128 #[.pointer (some ⟨b, 0, none⟩)] w fun e w' => e = .returned (.pointer (some ⟨b, 0, none⟩)) ∧ Below b w w' ∧ ClassesAt w' b := by
  have hb := lt_of_block hc
  have HO := Lib.hid (uonce b w.heap.size (w.alloc (.cells #[.pointer (some ⟨b, 0, none⟩)] 181)) (by rw [Below.heap_alloc _ _ _ hb]; exact hc) (by omega) (by simp))
  have HB := Lib.hid (uworld_up (w1 := w.alloc (.cells #[.pointer (some ⟨b, 0, none⟩)] 181)) (b := b) (by simp <;> omega))
  have HC := Lib.hid (uworld_classes (w1 := w.alloc (.cells #[.pointer (some ⟨b, 0, none⟩)] 181)) (b := b) (by rw [Below.heap_alloc _ _ _ hb]; exact hc))
  have hpp := (uworld_cell (w1 := w.alloc (.cells #[.pointer (some ⟨b, 0, none⟩)] 181)) (b := b) (p := w.heap.size) (by omega) (by simp)).trans (World.cell?_alloc_at _ _ _ _ rfl)
  have hmf := @run_makeFunc Tryz.prog
  clear hc
  go_enter Tryz.func128, Tryz.ntmps128
  go_wp2_with fail
  refine HO.out.mono ?_
  rintro e w' ⟨rfl, rfl⟩
  generalize uworld (w.alloc (.cells #[.pointer (some ⟨b, 0, none⟩)] 181)) b = w4 at *
  go_wp2
  go_ret
  exact ⟨rfl, ((Below.refl b w).alloc (by omega) _).trans HB.out, HC.out⟩

set_option maxRecDepth 100000 in
set_option maxHeartbeats 1600000 in
theorem known_any (w : World) : Calls Tryz.prog 103 #[] w fun e w' => e = .returned (.pointer (some ⟨w.heap.size, 0, none⟩)) ∧ Up w w' ∧ ClassesAt w' w.heap.size := by
  have HF := Lib.hid (ufill_any w.heap.size (w.alloc clsNew) (heap_new rfl))
  go_enter Tryz.func103, Tryz.ntmps103
  go_wp2_with fail
  refine HF.out.mono ?_
  rintro e w' ⟨rfl, hb, hc⟩
  have HB := Lib.hid hb
  have HC := Lib.hid hc
  clear hb hc
  go_wp2
  go_ret
  exact ⟨rfl, (((Below.refl _ w).alloc (Nat.le_refl _) _).trans HB.out), HC.out⟩

def isCharI (r : Int) : Bool := charL.any (spanHas r)
def isFirstI (r : Int) : Bool := firstL.any (spanHas r)
def isOtherI (r : Int) : Bool := isFirstI r || furtherL.any (spanHas r)
def isBlankI (r : Int) : Bool := r == 32 || r == 9 || r == 13 || r == 10

set_option maxRecDepth 100000 in
set_option maxHeartbeats 1600000 in
theorem isChar_any (r : Int) (w : World) : Calls Tryz.prog 92 #[.int .i64 r] w fun e w' => e = .returned (.bool (isCharI r)) ∧ Up w w' := by
  go_enter Tryz.func92, Tryz.ntmps92
  go_wp2_with fail
  refine (known_any _).mono ?_
  rintro e w1 ⟨rfl, hu, b1, b2, b3, h3, h4, h5, s1, s2, s3, _, _, _⟩
  have HU := Lib.hid hu
  have HS := Lib.hid s1
  clear hu s1 s2 s3
  go_wp2_with fail
  refine (isIn_any r charL b1 5 _ (by decide) HS.out).mono ?_
  rintro e w2 ⟨rfl, hu2⟩
  have HU2 := Lib.hid hu2
  clear hu2 h3 h4 h5
  go_wp2
  go_ret
  exact ⟨rfl, HU.out.trans HU2.out⟩
set_option maxRecDepth 100000 in
set_option maxHeartbeats 1600000 in
theorem isFirst_any (r : Int) (w : World) : Calls Tryz.prog 84 #[.int .i64 r] w fun e w' => e = .returned (.bool (isFirstI r)) ∧ Up w w' := by
  go_enter Tryz.func84, Tryz.ntmps84
  go_wp2_with fail
  refine (known_any _).mono ?_
  rintro e w1 ⟨rfl, hu, b1, b2, b3, h3, h4, h5, s1, s2, s3, _, _, _⟩
  have HU := Lib.hid hu
  have HS := Lib.hid s2
  clear hu s1 s2 s3
  go_wp2_with fail
  refine (isIn_any r firstL b2 16 _ (by decide) HS.out).mono ?_
  rintro e w2 ⟨rfl, hu2⟩
  have HU2 := Lib.hid hu2
  clear hu2 h3 h4 h5
  go_wp2
  go_ret
  exact ⟨rfl, HU.out.trans HU2.out⟩
set_option maxRecDepth 100000 in
set_option maxHeartbeats 1600000 in
theorem isOther_any (r : Int) (w : World) : Calls Tryz.prog 85 #[.int .i64 r] w fun e w' => e = .returned (.bool (isOtherI r)) ∧ Up w w' := by
  cases hf : isFirstI r
  · have HF := Lib.hid hf
    clear hf
    go_enter Tryz.func85, Tryz.ntmps85
    go_wp2_with fail
    refine (isFirst_any r _).mono ?_
    rintro e w0 ⟨rfl, hu0⟩
    have HU0 := Lib.hid hu0
    clear hu0
    rw [HF.out]
    go_wp2_with fail
    refine (known_any _).mono ?_
    rintro e w1 ⟨rfl, hu, b1, b2, b3, h3, h4, h5, s1, s2, s3, _, _, _⟩
    have HU := Lib.hid hu
    have HS := Lib.hid s3
    clear hu s1 s2 s3
    go_wp2_with fail
    refine (isIn_any r furtherL b3 5 _ (by decide) HS.out).mono ?_
    rintro e w2 ⟨rfl, hu2⟩
    have HU2 := Lib.hid hu2
    clear hu2 h3 h4 h5
    go_wp2
    go_ret
    exact ⟨by simp [isOtherI, HF.out], HU0.out.trans (HU.out.trans HU2.out)⟩
  · have HF := Lib.hid hf
    clear hf
    go_enter Tryz.func85, Tryz.ntmps85
    go_wp2_with fail
    refine (isFirst_any r _).mono ?_
    rintro e w0 ⟨rfl, hu0⟩
    have HU0 := Lib.hid hu0
    clear hu0
    rw [HF.out]
    go_wp2_with fail
    go_ret
    exact ⟨by simp [isOtherI, HF.out], HU0.out⟩
theorem isCharI_nat (r : Nat) : isCharI r = Pl.isChar r := by
  rw [Bool.eq_iff_iff]; simp [isCharI, charL, spanHas, Pl.isChar]; omega
theorem isFirstI_nat (r : Nat) : isFirstI r = Pl.isFirst r := by
  rw [Bool.eq_iff_iff]; simp [isFirstI, firstL, spanHas, Pl.isFirst]; omega
theorem isOtherI_nat (r : Nat) : isOtherI r = Pl.isOther r := by
  unfold isOtherI Pl.isOther
  rw [isFirstI_nat]
  congr 1
  rw [Bool.eq_iff_iff]; simp [furtherL, spanHas, Pl.isFurther]; omega
end Go.Proofs.YtckfgkmfeklcmaaGreatDoor
