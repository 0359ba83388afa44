/- The texts AsTok, TokA, TokB, TokC, TokD of this claim in one: the walks and plain laws that the statement's proof rests on. -/
import Derived.Test.YtckfgkmfeklcmaaGreatDoorGI
import Derived.Shelf.Strings.SlTrimAscii
set_option linter.unusedVariables false
set_option linter.unusedSimpArgs false
/- errors.As at token's own error (printed from XAsEsc by a program). -/
namespace Go.Proofs.YtckfgkmfeklcmaaGreatDoor
open Go.RowKit Go.Shelf Go.Extern.Stop Go.Stop Go.Extern

/-! at one struct's type -/
theorem tW_valueOf (t : Addr) (w : World) : (ReflectliteValue.unpack (.iface 65 (.pointer (some t)))).run Tryz.prog w
    = .ok (.agg #[.pointer (some ⟨6, 65, none⟩), .pointer (some ⟨w.heap.size, 0, none⟩), .int .u64 150]) (w.alloc (.cells #[.pointer (some t)] 65)) := by kernel_rfl
theorem tW_type (a : Addr) (w : World) : (ReflectliteValue.methodAny (ReflectliteValue.valueError "reflectlite.Value.Type" 0) (fun t _ _ _ => ReflectliteType.toType t) #[.agg #[.pointer (some ⟨6, 65, none⟩), .pointer (some a), .int .u64 150]]).run Tryz.prog w
    = .ok (.iface 108 (.agg #[.pointer (some ⟨6, 65, none⟩)])) w := by kernel_rfl
theorem tW_kindP (w : World) : ((ReflectliteType.abiMethod fun t => (fun a : Nat => Value.int IntKind.u8 (a : Int)) <$> Rtype.kind t) #[.pointer (some ⟨6, 65, none⟩)]).run Tryz.prog w = .ok (.int .u8 22) w := by kernel_rfl
theorem tW_kindS (w : World) : ((ReflectliteType.abiMethod fun t => (fun a : Nat => Value.int IntKind.u8 (a : Int)) <$> Rtype.kind t) #[.pointer (some ⟨6, 62, none⟩)]).run Tryz.prog w = .ok (.int .u8 25) w := by kernel_rfl
theorem tW_parts (a : Addr) (w : World) : (ReflectliteValue.parts (.agg #[.pointer (some ⟨6, 65, none⟩), .pointer (some a), .int .u64 150])).run Tryz.prog w = .ok (some (65, a, 150)) w := by kernel_rfl
theorem tW_isNil (a p : Addr) (W : World) (ha : W.cell? a = some (.pointer (some p))) :
    (ReflectliteValue.method (ReflectliteValue.valueError "reflectlite.Value.IsNil" 0) ReflectliteValue.isNil #[.agg #[.pointer (some ⟨6, 65, none⟩), .pointer (some a), .int .u64 150]]).run Tryz.prog W = .ok (.bool false) W := by
  rw [rlm]
  simp only [Sem.run_bind, tW_parts, Result.andThen]
  simp [ReflectliteValue.isNil, loadVar, isAgg, underlying, Tryz.underlying65, ha, Result.andThen]
theorem tW_elem (w : World) : (ReflectliteType.method ReflectliteType.elem #[.agg #[.pointer (some ⟨6, 65, none⟩)]]).run Tryz.prog w = .ok (.iface 108 (.agg #[.pointer (some ⟨6, 62, none⟩)])) w := by kernel_rfl
theorem tW_implements (w : World) : (ReflectliteType.relation "Implements" ReflectliteType.implements_ #[.agg #[.pointer (some ⟨6, 62, none⟩)], .iface 108 (.agg #[.pointer (some ⟨6, 49, none⟩)])]).run Tryz.prog w = .ok (.bool true) w := by kernel_rfl
theorem tW_typeOf (v : Value) (w : World) : (ReflectliteType.typeOf #[.iface 62 v]).run Tryz.prog w = .ok (.iface 108 (.agg #[.pointer (some ⟨6, 62, none⟩)])) w := by kernel_rfl
theorem tW_assignable (w : World) : (ReflectliteType.relation "AssignableTo" ReflectliteType.assignableTo #[.agg #[.pointer (some ⟨6, 62, none⟩)], .iface 108 (.agg #[.pointer (some ⟨6, 62, none⟩)])]).run Tryz.prog w = .ok (.bool true) w := by kernel_rfl
theorem tW_valueOfS (a b : Int) (w : World) : (ReflectliteValue.unpack (.iface 62 (.agg #[.int .i64 a, .int .i64 b]))).run Tryz.prog w
    = .ok (.agg #[.pointer (some ⟨6, 62, none⟩), .pointer (some ⟨w.heap.size, 0, none⟩), .int .u64 153]) (w.alloc (.cells #[.int .i64 a, .int .i64 b] 62)) := by kernel_rfl
theorem tW_elemOf (w : World) : (Rtype.elem? 65).run Tryz.prog w = .ok (some 62) w := by kernel_rfl
theorem tW_mk (p : Addr) (w : World) : (ReflectliteValue.mk 62 p ReflectliteValue.flagAddr).run Tryz.prog w = .ok (.agg #[.pointer (some ⟨6, 62, none⟩), .pointer (some p), .int .u64 409]) w := by kernel_rfl
theorem tW_elemV (a p : Addr) (W : World) (ha : W.cell? a = some (.pointer (some p))) :
    (ReflectliteValue.method (ReflectliteValue.valueError "reflectlite.Value.Elem" 0) ReflectliteValue.elem #[.agg #[.pointer (some ⟨6, 65, none⟩), .pointer (some a), .int .u64 150]]).run Tryz.prog W
      = .ok (.agg #[.pointer (some ⟨6, 62, none⟩), .pointer (some p), .int .u64 409]) W := by
  rw [rlm]
  simp only [Sem.run_bind, tW_parts, Result.andThen]
  simp [ReflectliteValue.elem, loadVar, isAgg, underlying, Tryz.underlying65, ha, Result.andThen, tW_elemOf, tW_mk]
theorem tW_partsA (a : Addr) (w : World) : (ReflectliteValue.parts (.agg #[.pointer (some ⟨6, 62, none⟩), .pointer (some a), .int .u64 409])).run Tryz.prog w = .ok (some (62, a, 409)) w := by kernel_rfl
theorem tW_partsS (a : Addr) (w : World) : (ReflectliteValue.parts (.agg #[.pointer (some ⟨6, 62, none⟩), .pointer (some a), .int .u64 153])).run Tryz.prog w = .ok (some (62, a, 153)) w := by kernel_rfl
theorem tW_direct (w : World) : (Rtype.directlyAssignable 62 62).run Tryz.prog w = .ok true w := by kernel_rfl
theorem tW_size (w : World) : (sizeOf 62).run Tryz.prog w = .ok 2 w := by kernel_rfl
theorem tW_agg (w : World) : (isAgg 62).run Tryz.prog w = .ok true w := by kernel_rfl
theorem tW_load (b : Nat) (x y : Int) (W : World) (h0 : W.cell? ⟨b, 0, none⟩ = some (.int .i64 x)) (h1 : W.cell? ⟨b, 1, none⟩ = some (.int .i64 y)) : (loadVar 62 ⟨b, 0, none⟩).run Tryz.prog W = .ok (.agg #[.int .i64 x, .int .i64 y]) W := by
  unfold loadVar
  simp only [Sem.run_bind, tW_agg, Result.andThen]
  simp [tW_size, loadCells, go_sem, h0, h1]
theorem tW_set (t b : Nat) (x y : Int) (u v : Value) (W : World) (h0 : W.cell? ⟨b, 0, none⟩ = some (.int .i64 x)) (h1 : W.cell? ⟨b, 1, none⟩ = some (.int .i64 y)) (t0 : W.cell? ⟨t, 0, none⟩ = some u) (t1 : W.cell? ⟨t, 1, none⟩ = some v)
    (f0 : W.frozen? ⟨t, 0, none⟩ = false) (f1 : W.frozen? ⟨t, 1, none⟩ = false) :
    (ReflectliteValue.set #[.agg #[.pointer (some ⟨6, 62, none⟩), .pointer (some ⟨t, 0, none⟩), .int .u64 409], .agg #[.pointer (some ⟨6, 62, none⟩), .pointer (some ⟨b, 0, none⟩), .int .u64 153]]).run Tryz.prog W
      = .ok (.tuple #[]) ((W.setCell ⟨t, 0, none⟩ (.int .i64 x)).setCell ⟨t, 1, none⟩ (.int .i64 y)) := by
  have hl := tW_load b x y W h0 h1
  rw [rls]
  simp only [Sem.run_bind, tW_partsA, tW_partsS, Result.andThen]
  rw [if_neg (by decide)]
  simp only [Sem.run_bind, hl, Result.andThen, tW_direct, if_true]
  unfold storeVar
  have e1 : (Value.agg #[Value.int IntKind.i64 x, Value.int IntKind.i64 y]).cells.size = 2 := rfl
  have e2 : (Value.agg #[Value.int IntKind.i64 x, Value.int IntKind.i64 y]).cells.toList = [Value.int IntKind.i64 x, Value.int IntKind.i64 y] := rfl
  rw [e1, e2]
  have s1 : (store ⟨t, 0, none⟩ (.int .i64 x)).run Tryz.prog W = .ok () (W.setCell ⟨t, 0, none⟩ (.int .i64 x)) := by
    rw [run_store Tryz.prog W ⟨t, 0, none⟩ _ _ (by rfl)]; simp [t0, f0]
  have s2 : (store ⟨t, 1, none⟩ (.int .i64 y)).run Tryz.prog (W.setCell ⟨t, 0, none⟩ (.int .i64 x)) = .ok () ((W.setCell ⟨t, 0, none⟩ (.int .i64 x)).setCell ⟨t, 1, none⟩ (.int .i64 y)) := by
    have c1 : (W.setCell ⟨t, 0, none⟩ (.int .i64 x)).cell? ⟨t, 1, none⟩ = some v := (World.cell?_setCell_other _ ⟨t, 0, none⟩ ⟨t, 1, none⟩ _ (by simp)).trans t1
    have g1 : (W.setCell ⟨t, 0, none⟩ (.int .i64 x)).frozen? ⟨t, 1, none⟩ = false := by simp [f1]
    rw [run_store Tryz.prog _ ⟨t, 1, none⟩ _ _ (by rfl)]; simp [c1, g1]
  simp only [Sem.run_bind, tW_size, Result.andThen, ne_eq, not_true, if_false, storeCells, Addr.add, Nat.zero_add, s1, s2]
  rw [if_pos trivial, if_neg (by decide)]
  simp only [s1, s2, Sem.run_pure]

set_option maxRecDepth 100000 in
set_option maxHeartbeats 4000000 in
theorem tW_hit (x y : Int) (t : Nat) (u v : Value) (w : World) (hg : w.cell? ⟨0, 0, none⟩ = some (.iface 108 (.agg #[.pointer (some ⟨6, 49, none⟩)]))) (ht : w.heap[t]? = some (.cells #[u, v] 62 (0, 0))) :
    Calls Tryz.prog 25 #[.iface 62 (.agg #[.int .i64 x, .int .i64 y]), .iface 65 (.pointer (some ⟨t, 0, none⟩))] w fun ev w' => ev = .returned (.bool true) ∧ ∃ w2, Up w w2 ∧ w' = (w2.setCell ⟨t, 0, none⟩ (.int .i64 x)).setCell ⟨t, 1, none⟩ (.int .i64 y) := by
  have h6 := @run_callFunc_extern Tryz.prog 32 _ (fun args => ReflectliteValue.unpack (args.getD 0 (.tuple #[]))) Tryz.func32 (by kernel_rfl) (by kernel_rfl) (by kernel_rfl) (by kernel_rfl)
  have h7 := @run_callFunc_extern Tryz.prog 33 _ (ReflectliteValue.methodAny (ReflectliteValue.valueError "reflectlite.Value.Type" 0) (fun t _ _ _ => ReflectliteType.toType t)) Tryz.func33 (by kernel_rfl) (by kernel_rfl) (by kernel_rfl) (by kernel_rfl)
  have h8 := @run_callFunc_extern Tryz.prog 34 _ (ReflectliteValue.method (ReflectliteValue.valueError "reflectlite.Value.IsNil" 0) ReflectliteValue.isNil) Tryz.func34 (by kernel_rfl) (by kernel_rfl) (by kernel_rfl) (by kernel_rfl)
  have h27 := @run_callFunc_extern Tryz.prog 215 _ (ReflectliteType.abiMethod fun t => do pure (.int .u8 (← Rtype.kind t))) Tryz.func215 (by kernel_rfl) (by kernel_rfl) (by kernel_rfl) (by kernel_rfl)
  have h37 := @run_callFunc_extern Tryz.prog 226 _ (ReflectliteType.method ReflectliteType.elem) Tryz.func226 (by kernel_rfl) (by kernel_rfl) (by kernel_rfl) (by kernel_rfl)
  have h38 := @run_callFunc_extern Tryz.prog 227 _ (ReflectliteType.relation "Implements" ReflectliteType.implements_) Tryz.func227 (by kernel_rfl) (by kernel_rfl) (by kernel_rfl) (by kernel_rfl)
  have h10 := @run_callFunc_extern Tryz.prog 57 _ ReflectliteType.typeOf Tryz.func57 (by kernel_rfl) (by kernel_rfl) (by kernel_rfl) (by kernel_rfl)
  have h35 := @run_callFunc_extern Tryz.prog 224 _ (ReflectliteType.relation "AssignableTo" ReflectliteType.assignableTo) Tryz.func224 (by kernel_rfl) (by kernel_rfl) (by kernel_rfl) (by kernel_rfl)
  have h11 := @run_callFunc_extern Tryz.prog 58 _ (ReflectliteValue.method (ReflectliteValue.valueError "reflectlite.Value.Elem" 0) ReflectliteValue.elem) Tryz.func58 (by kernel_rfl) (by kernel_rfl) (by kernel_rfl) (by kernel_rfl)
  have h12 := @run_callFunc_extern Tryz.prog 59 _ ReflectliteValue.set Tryz.func59 (by kernel_rfl) (by kernel_rfl) (by kernel_rfl) (by kernel_rfl)
  have tO := tW_typeOf
  have mA := methodAssignableTo
  have a25 := tW_assignable
  have v25 := tW_valueOfS
  have f6 := tW_valueOf
  have f7 := tW_type
  have mK := methodKind
  have mE := methodElem
  have mI := methodImplements
  have k27 := tW_kindP
  have k25 := tW_kindS
  have e27 := tW_elem
  have i25 := tW_implements
  have htl := lt_of_block ht
  have hgl := lt_of_cell hg
  obtain ⟨W1, hW1⟩ : ∃ W1, W1 = w.alloc (.cells #[.pointer (some ⟨t, 0, none⟩)] 65) := ⟨_, rfl⟩
  obtain ⟨W2, hW2⟩ : ∃ W2, W2 = W1.alloc (.cells #[.pointer (some ⟨6, 65, none⟩), .pointer (some ⟨w.heap.size, 0, none⟩), .int .u64 150] 75) := ⟨_, rfl⟩
  obtain ⟨W3, hW3⟩ : ∃ W3, W3 = W2.alloc (.cells #[.pointer (some ⟨6, 65, none⟩), .pointer (some ⟨w.heap.size, 0, none⟩), .int .u64 150] 75) := ⟨_, rfl⟩
  obtain ⟨W4, hW4⟩ : ∃ W4, W4 = W3.alloc (.cells #[.int .i64 x, .int .i64 y] 62) := ⟨_, rfl⟩
  have u1 : Up w W1 := by rw [hW1]; exact (Up.self w).alloc _
  have u12 : Up W1 W2 := by rw [hW2]; exact (Up.self _).alloc _
  have u23 : Up W2 W3 := by rw [hW3]; exact (Up.self _).alloc _
  have u34 : Up W3 W4 := by rw [hW4]; exact (Up.self _).alloc _
  have u2 := u1.trans u12
  have s1 : W1.heap.size = w.heap.size + 1 := by rw [hW1]; simp
  have s2 : W2.heap.size = w.heap.size + 2 := by rw [hW2]; simp [s1]
  have s3 : W3.heap.size = w.heap.size + 3 := by rw [hW3]; simp [s2]
  have p1 : W1.cell? ⟨w.heap.size, 0, none⟩ = some (.pointer (some ⟨t, 0, none⟩)) := by rw [hW1]; exact cell_of_one (heap_new rfl)
  have p2 : W2.cell? ⟨w.heap.size, 0, none⟩ = some (.pointer (some ⟨t, 0, none⟩)) := (u12.cells.1 _ 0 (by omega)).trans p1
  have p3 : W3.cell? ⟨w.heap.size, 0, none⟩ = some (.pointer (some ⟨t, 0, none⟩)) := (u23.cells.1 _ 0 (by omega)).trans p2
  have hg2 : W2.cell? ⟨0, 0, none⟩ = _ := (u2.cells.1 _ 0 hgl).trans hg
  have n8 := tW_isNil ⟨w.heap.size, 0, none⟩ ⟨t, 0, none⟩ W2 p2
  have el := tW_elemV ⟨w.heap.size, 0, none⟩ ⟨t, 0, none⟩ W3 p3
  have hu4 : Up w W4 := (u2.trans u23).trans u34
  have ht4 : W4.heap[t]? = some (.cells #[u, v] 62 (0, 0)) := (hu4.block t htl).trans ht
  have hb4 : W4.heap[W3.heap.size]? = some (.cells #[.int .i64 x, .int .i64 y] 62 (0, 0)) := by rw [hW4]; exact heap_new rfl
  have st := tW_set t W3.heap.size x y u v W4 (cell_of_block hb4 0) (cell_of_block hb4 1) (cell_of_block ht4 0) (cell_of_block ht4 1) (frozen_of_block ht4 0) (frozen_of_block ht4 1)
  rw [s3] at st
  rw [hW2, hW1] at n8 hg2
  rw [hW3, hW2, hW1] at el
  have HU4 := Lib.hid hu4
  rw [hW4, hW3, hW2, hW1] at st HU4
  clear hu4 u1 u12 u23 u34 u2 s1 s2 s3 p1 p2 p3 ht4 hb4 hW1 hW2 hW3 hW4
  go_enter Tryz.func25, Tryz.ntmps25
  go_wp2
  refine wp_loop_rounds 1 ?_
  rw [rounds_succ]
  go_wp2
  go_ret
  exact ⟨rfl, _, HU4.out, rfl⟩
end Go.Proofs.YtckfgkmfeklcmaaGreatDoor

/- Tokens: the reader, its small steps. -/
namespace Go.Proofs.YtckfgkmfeklcmaaGreatDoor
open Go.RowKit Go.Shelf
attribute [local go_sem] Oper.semAt_some

/-- the program's variables lie below M, whatever is written above -/
def EnvB (M : Nat) (w : World) : Prop := ∀ w' : World, (∀ k, k < M → w'.heap[k]? = w.heap[k]?) → Env w'
theorem EnvB.below {M : Nat} {w w' : World} (h : EnvB M w) (u : Below M w w') : EnvB M w' := fun v hv => h v fun k hk => (hv k hk).trans (u.block k hk)
theorem EnvB.env {M : Nat} {w : World} (h : EnvB M w) : Env w := h w fun _ _ => rfl
theorem EnvB.of {w : World} (h : Env w) : EnvB w.heap.size w := fun w' hk => h.of_blocks (by
  rcases Nat.eq_zero_or_pos w.heap.size with h0 | h0
  · omega
  · have h1 := hk (w.heap.size - 1) (by omega)
    have h2 : w.heap[w.heap.size - 1]? = some (w.heap[w.heap.size - 1]'(by omega)) := Array.getElem?_eq_getElem (by omega)
    have := (Array.getElem?_eq_some_iff.1 (h1.trans h2)).1
    omega) hk
/-- attributes as cells -/
def va (l : List (List UInt8 × List UInt8)) : List Value := l.flatMap fun a => [.string (mk a.1), .string (mk a.2)]
theorem va_app (a b : List (List UInt8 × List UInt8)) : va (a ++ b) = va a ++ va b := by simp [va]
theorem va_len (l : List (List UInt8 × List UInt8)) : (va l).length = l.length * 2 := by
  induction l with
  | nil => rfl
  | cons a t ih => have : va (a :: t) = [.string (mk a.1), .string (mk a.2)] ++ va t := by simp [va]
                   rw [this, List.length_append, ih]; simp; omega
def metKv (l : List (List UInt8)) : List (Value × Value) := l.map fun a => (.string (mk a), .int .i64 1)
/-- attributes, and the names met -/
abbrev AM := List (List UInt8 × List UInt8) × List (List UInt8)
def wrongT (e : Int) (n : Nat) : Value := .iface 62 (.agg #[.int .i64 e, .int .i64 (n : Int)])

/-- a reader of tokens (its blocks from M on) -/
structure RdT (M : Nat) (w : World) (b : Nat) (rest : List UInt8) (kind : Int) (name : List UInt8) (attrs : AM) (text : List UInt8) : Prop where made ::
  low : M ≤ b
  lay : ∃ v mb, w.heap[b]? = some (.cells #[.string (mk rest), .int .i64 kind, .string (mk name), v, .string (mk text), .map (some mb)] 60 (0, 0)) ∧ w.ownsRow M 43 2 v attrs.1.length (va attrs.1) ∧ M ≤ mb ∧ MapAt w mb (metKv attrs.2)
section
variable {M b : Nat} {w w' : World} {rest text name : List UInt8} {kind : Int} {attrs : AM}
theorem RdT.lt (h : RdT M w b rest kind name attrs text) : b < w.heap.size := by
  obtain ⟨v, mb, h1, _⟩ := h.lay; exact lt_of_block h1
theorem row_up {e size n : Nat} {v : Value} {xs : List Value} {base : Nat} (h : w.ownsRow base e size v n xs) (hk : ∀ g, v.ownBlock = some g → ∀ o, w.heap[g]? = some o → w'.heap[g]? = some o) : w'.ownsRow base e size v n xs := by
  refine ⟨h.1, ?_⟩
  rcases h.2 with h0 | ⟨g, cap, cur, hv, hb, hg, rest⟩
  · exact .inl h0
  · exact .inr ⟨g, cap, cur, hv, hb, hk g (by rw [hv]; rfl) _ hg, rest⟩
theorem row_keeps {e size n : Nat} {v : Value} {xs : List Value} {base : Nat} (h : w.ownsRow base e size v n xs) (hk : ∀ (g : Nat) c, w.heap[g]? = some (.cells c e (0, 0)) → w'.heap[g]? = some (.cells c e (0, 0))) : w'.ownsRow base e size v n xs := by
  refine ⟨h.1, ?_⟩
  rcases h.2 with h0 | ⟨g, cap, cur, hv, hb, hg, rest⟩
  · exact .inl h0
  · exact .inr ⟨g, cap, cur, hv, hb, hk g _ hg, rest⟩
/-- what keeps all blocks but a fresh one's worth: the reader stays -/
theorem RdT.keep (h : RdT M w b rest kind name attrs text) (hk : ∀ (k : Nat) (o : Obj), w.heap[k]? = some o → w'.heap[k]? = some o) : RdT M w' b rest kind name attrs text := by
  obtain ⟨v, mb, h1, h2, h3, es, cl, h4, h5⟩ := h.lay
  exact ⟨h.low, v, mb, hk _ _ h1, row_keeps h2 (fun g c hg => hk g _ hg), h3, es, cl, hk _ _ h4, h5⟩
theorem RdT.up (h : RdT M w b rest kind name attrs text) (u : Up w w') : RdT M w' b rest kind name attrs text :=
  h.keep fun k o hk => (u.block k (Array.getElem?_eq_some_iff.1 hk).1).trans hk
theorem RdT.cell0 (h : RdT M w b rest kind name attrs text) : w.cell? ⟨b, 0, none⟩ = some (.string (mk rest)) := by
  obtain ⟨v, mb, h1, _⟩ := h.lay; exact cell_of_block h1 0
theorem RdT.cell1 (h : RdT M w b rest kind name attrs text) : w.cell? ⟨b, 1, none⟩ = some (.int .i64 kind) := by
  obtain ⟨v, mb, h1, _⟩ := h.lay; exact cell_of_block h1 1
theorem RdT.cell2 (h : RdT M w b rest kind name attrs text) : w.cell? ⟨b, 2, none⟩ = some (.string (mk name)) := by
  obtain ⟨v, mb, h1, _⟩ := h.lay; exact cell_of_block h1 2
theorem RdT.cell4 (h : RdT M w b rest kind name attrs text) : w.cell? ⟨b, 4, none⟩ = some (.string (mk text)) := by
  obtain ⟨v, mb, h1, _⟩ := h.lay; exact cell_of_block h1 4
theorem RdT.free (h : RdT M w b rest kind name attrs text) (i : Nat) : w.frozen? ⟨b, i, none⟩ = false := by
  obtain ⟨v, mb, h1, _⟩ := h.lay; exact frozen_of_block h1 i
theorem set_keeps {b : Nat} {c : Array Value} {T i : Nat} {x : Value} (h : w.heap[b]? = some (.cells c T (0, 0))) {e : Nat} (hne : e ≠ T) (g : Nat) (d : Array Value) (hg : w.heap[g]? = some (.cells d e (0, 0))) : (w.setCell ⟨b, i, none⟩ x).heap[g]? = some (.cells d e (0, 0)) := by
  rw [Below.heap_setCell _ _ _ _ (fun e' => by
    have e'' : g = b := e'
    subst e''
    rw [h] at hg; injection hg with hg; injection hg with _ hT _; exact hne hT.symm)]
  exact hg
theorem map_keeps {b : Nat} {c : Array Value} {T i m : Nat} {x : Value} {kv : List (Value × Value)} (h : w.heap[b]? = some (.cells c T (0, 0))) (hm : MapAt w m kv) : MapAt (w.setCell ⟨b, i, none⟩ x) m kv :=
  hm.same (Below.heap_setCell _ _ _ _ (fun e' => by
    have e'' : m = b := e'
    subst e''
    obtain ⟨es, cl, hh, _⟩ := hm
    rw [h] at hh; cases hh))
theorem RdT.set0 (h : RdT M w b rest kind name attrs text) (t : List UInt8) : RdT M (w.setCell ⟨b, 0, none⟩ (.string (mk t))) b t kind name attrs text := by
  obtain ⟨v, mb, h1, h2, h3, h4⟩ := h.lay
  exact ⟨h.low, v, mb, heap_setCell_at (i := 0) h1, row_keeps h2 (set_keeps h1 (by decide)), h3, map_keeps h1 h4⟩
theorem RdT.set1 (h : RdT M w b rest kind name attrs text) (k : Int) : RdT M (w.setCell ⟨b, 1, none⟩ (.int .i64 k)) b rest k name attrs text := by
  obtain ⟨v, mb, h1, h2, h3, h4⟩ := h.lay
  exact ⟨h.low, v, mb, heap_setCell_at (i := 1) h1, row_keeps h2 (set_keeps h1 (by decide)), h3, map_keeps h1 h4⟩
theorem RdT.set2 (h : RdT M w b rest kind name attrs text) (t : List UInt8) : RdT M (w.setCell ⟨b, 2, none⟩ (.string (mk t))) b rest kind t attrs text := by
  obtain ⟨v, mb, h1, h2, h3, h4⟩ := h.lay
  exact ⟨h.low, v, mb, heap_setCell_at (i := 2) h1, row_keeps h2 (set_keeps h1 (by decide)), h3, map_keeps h1 h4⟩
theorem RdT.set4 (h : RdT M w b rest kind name attrs text) (t : List UInt8) : RdT M (w.setCell ⟨b, 4, none⟩ (.string (mk t))) b rest kind name attrs t := by
  obtain ⟨v, mb, h1, h2, h3, h4⟩ := h.lay
  exact ⟨h.low, v, mb, heap_setCell_at (i := 4) h1, row_keeps h2 (set_keeps h1 (by decide)), h3, map_keeps h1 h4⟩
theorem RdT.drew (h : RdT M w b rest kind name attrs text) : RdT M w.drew b rest kind name attrs text := h.keep fun _ _ h => h
end

/-- what a step of the reader may change: nothing below M, no row of functions -/
structure Fr (M : Nat) (w w' : World) : Prop where
  below : Below M w w'
  keep : ∀ (k : Nat) (c : Array Value) (T : TypeId), T = 64 ∨ T = 62 → w.heap[k]? = some (.cells c T (0, 0)) → w'.heap[k]? = some (.cells c T (0, 0))
theorem Fr.refl (M : Nat) (w : World) : Fr M w w := ⟨Below.refl M w, fun _ _ _ _ h => h⟩
theorem Fr.trans {M : Nat} {a b c : World} (h : Fr M a b) (k : Fr M b c) : Fr M a c := ⟨h.below.trans k.below, fun i o T hT hi => k.keep i o T hT (h.keep i o T hT hi)⟩
theorem Fr.size {M : Nat} {a b : World} (h : Fr M a b) : a.heap.size ≤ b.heap.size := h.below.size
theorem Fr.of_up {M : Nat} {a b : World} (u : Up a b) (hM : M ≤ a.heap.size) : Fr M a b := ⟨u.mono hM, fun k c T _ hk => (u.block k (Array.getElem?_eq_some_iff.1 hk).1).trans hk⟩
theorem Fr.drew {M : Nat} {a b : World} (h : Fr M a b) : Fr M a b.drew := ⟨h.below.drew, h.keep⟩
theorem Fr.set {M b : Nat} {a w : World} {rest text name : List UInt8} {kind : Int} {attrs : AM} (h : Fr M a w) (r : RdT M w b rest kind name attrs text) (i : Nat) (x : Value) : Fr M a (w.setCell ⟨b, i, none⟩ x) := by
  obtain ⟨v, mb, h1, _⟩ := r.lay
  exact ⟨h.below.setCell (p := ⟨b, i, none⟩) r.low x, fun k c T hT hk => set_keeps h1 (by rcases hT with rfl | rfl <;> decide) k c (h.keep k c T hT hk)⟩
theorem Fr.putD {M D : Nat} {a w : World} {x : Option (List Deferred)} {o : Obj} (h : Fr M a w) (hD : w.heap[D]? = some (.deferred x)) (hM : M ≤ D) : Fr M a (w.putObj D o) :=
  ⟨h.below.trans ⟨rfl, rfl, rfl, by simp, fun k hk => World.putObj_heap_other (by omega)⟩, fun k c T hT hk => (World.putObj_heap_other (fun e => by have := h.keep k c T hT hk; rw [e, hD] at this; cases this)).trans (h.keep k c T hT hk)⟩
theorem EnvB.fr {M : Nat} {w w' : World} (h : EnvB M w) (u : Fr M w w') : EnvB M w' := h.below u.below

section
variable (M b : Nat) (rest text name : List UInt8) (kind : Int) (attrs : AM) (w : World)
set_option maxHeartbeats 800000 in
theorem tfail_any (e : Int) (h : RdT M w b rest kind name attrs text) :
    Calls Tryz.prog 36 #[.pointer (some ⟨b, 0, none⟩), .int .i64 e] w fun ev w' => ev = .returned (wrongT e rest.length) ∧ w' = w := by
  have c0 := h.cell0
  have hsz := mk_size rest
  clear h
  go_enter Tryz.func36, Tryz.ntmps36
  go_wp2
  go_ret
  exact ⟨rfl, rfl⟩
set_option maxHeartbeats 800000 in
theorem is_any (p : ByteArray) (pl : List UInt8) (hp : p.data.toList = pl) (h : RdT M w b rest kind name attrs text) :
    Calls Tryz.prog 37 #[.pointer (some ⟨b, 0, none⟩), .string p] w fun ev w' => ev = .returned (.bool (Lib.hasPrefix rest pl)) ∧ RdT M w' b (Lib.trimPrefix rest pl) kind name attrs text ∧ Fr M w w' := by
  have c0 := h.cell0
  have f0 := h.free 0
  have H := Lib.hid h
  clear h
  go_enter Tryz.func37, Tryz.ntmps37
  go_wp2_with fail
  refine (cutPrefix_lit rest p pl hp w).mono ?_
  rintro e w1 ⟨rfl, rfl⟩
  go_wp2_with fail
  go_ret
  exact ⟨rfl, H.out.set0 _, (Fr.refl M w1).set H.out 0 _⟩
theorem one_prefix (c : UInt8) (l : List UInt8) : (∃ t, l = c :: t ∧ Lib.hasPrefix l [c] = true ∧ Lib.trimPrefix l [c] = t ∧ Pl.mustP c l = .ok () t) ∨ ((∀ t, l ≠ c :: t) ∧ Lib.hasPrefix l [c] = false ∧ Lib.trimPrefix l [c] = l ∧ Pl.mustP c l = .bad 50 l.length) := by
  match l with
  | [] => exact .inr ⟨by simp, rfl, rfl, rfl⟩
  | d :: t =>
    by_cases h : d = c
    · subst h
      exact .inl ⟨t, rfl, by simp [Lib.hasPrefix], by simp [Lib.trimPrefix, Lib.hasPrefix], by simp [Pl.mustP]⟩
    · have hp : Lib.hasPrefix (d :: t) [c] = false := by simp [Lib.hasPrefix, List.isPrefixOf]; exact fun e => h (Eq.symm e)
      exact .inr ⟨by intro t e; injection e with e _; exact h e, hp, by simp [Lib.trimPrefix, hp], by simp [Pl.mustP, h]⟩
def mustPost (c : UInt8) (e : Ending) (w' : World) : Prop :=
  (∃ t, Pl.mustP c rest = .ok () t ∧ e = .returned .nilIface ∧ RdT M w' b t kind name attrs text) ∨ (Pl.mustP c rest = .bad 50 rest.length ∧ e = .returned (wrongT 50 rest.length))
set_option maxHeartbeats 800000 in
theorem must_any (p : ByteArray) (c : UInt8) (hp : p.data.toList = [c]) (h : RdT M w b rest kind name attrs text) :
    Calls Tryz.prog 63 #[.pointer (some ⟨b, 0, none⟩), .string p] w fun ev w' => mustPost M b rest text name kind attrs c ev w' ∧ Fr M w w' := by
  have hnot : ∀ (x : Bool) (w : World), (Op.unary .not (.bool x)).run Tryz.prog w = .ok (.bool (!x)) w := fun _ _ => rfl
  rcases one_prefix c rest with ⟨t, h0, h1, h2, h3⟩ | ⟨h0, h1, h2, h3⟩
  all_goals
    have H1 := Lib.hid h1
    have H2 := Lib.hid h2
    have H3 := Lib.hid h3
    clear h0 h1 h2 h3
    go_enter Tryz.func63, Tryz.ntmps63
    go_wp2_with fail
    refine (is_any M b rest text name kind attrs w p [c] hp h).mono ?_
    rintro e w1 ⟨rfl, hr, hb⟩
    rw [H1.out]
    rw [H2.out] at hr
    have HR := Lib.hid hr
    have HB := Lib.hid hb
    clear hr hb
    go_wp2_with fail
  · go_ret
    exact ⟨.inl ⟨t, H3.out, rfl, HR.out⟩, HB.out⟩
  · refine (tfail_any M b rest text name kind attrs w1 50 HR.out).mono ?_
    rintro e w2 ⟨rfl, rfl⟩
    unfold wrongT
    go_wp2_with fail
    go_ret
    exact ⟨.inr ⟨H3.out, rfl⟩, HB.out⟩
theorem Tryz.info256 : (Tryz.prog.info? (Tryz.lays161_ren.t 116)).map (fun i => (i.zero, i.size)) = some (some (.agg (Array.replicate 256 (.bool false))), 256) := by kernel_rfl
theorem trim_any (l : List UInt8) (w : World) : Calls Tryz.prog 86 #[.string (mk l), .string ⟨#[32, 9, 13, 10]⟩] w fun e w' => e = .returned (.string (mk (Pl.blanks l))) ∧ Up w w' := by
  have h := Any.strings_TrimLeft_laid Tryz.lays161 Tryz.info256 (mk l) ⟨#[32, 9, 13, 10]⟩ w (by decide) (ascii_of_all (by decide))
  rw [mk_list] at h
  have e : Lib.trimLeftS l [32, 9, 13, 10] = Pl.blanks l := by
    unfold Lib.trimLeftS Pl.blanks
    congr 1
    funext c
    have : ∀ n : Fin 256, ([32, 9, 13, 10] : List UInt8).contains (UInt8.ofNat n.1) = Pl.blankB (UInt8.ofNat n.1) := by decide +kernel
    have := this ⟨c.toNat, c.toNat_lt⟩
    simpa using this
  rw [show (({ data := #[32, 9, 13, 10] } : ByteArray).data.toList) = [32, 9, 13, 10] from rfl, e] at h
  exact h
set_option maxHeartbeats 800000 in
theorem blanks_any (h : RdT M w b rest kind name attrs text) :
    Calls Tryz.prog 62 #[.pointer (some ⟨b, 0, none⟩)] w fun ev w' => ev = .returned (.bool (decide ((Pl.blanks rest).length < rest.length))) ∧ RdT M w' b (Pl.blanks rest) kind name attrs text ∧ Fr M w w' := by
  have c0 := h.cell0
  have hsz := mk_size rest
  have hsz2 := mk_size (Pl.blanks rest)
  have H := Lib.hid h
  clear h
  go_enter Tryz.func62, Tryz.ntmps62
  go_wp2_with fail
  refine (trim_any rest w).mono ?_
  rintro e w1 ⟨rfl, hu⟩
  have H1 := Lib.hid (H.out.up hu)
  have f0 := H1.out.free 0
  have c0 := H1.out.cell0
  have HB := Lib.hid ((Fr.of_up hu (Nat.le_trans H.out.low (Nat.le_of_lt H.out.lt))).set H1.out 0 (.string (mk (Pl.blanks rest))))
  clear hu
  go_wp2_with fail
  go_ret
  exact ⟨by simp, H1.out.set0 _, HB.out⟩
end
end Go.Proofs.YtckfgkmfeklcmaaGreatDoor

/- Tokens: a value. -/
namespace Pl
theorem get_err_le : ∀ (k : Nat) (s : Bytes) (p : Nat) (e : Int), s.length ≤ k → get s = .error (p, e) → p ≤ s.length := by
  intro k
  induction k with
  | zero =>
    intro s p e h hg
    have : s = [] := List.length_eq_zero_iff.1 (by omega)
    subst this; cases hg
  | succ k ih =>
    intro s p e h hg
    by_cases h0 : s = []
    · subst h0; cases hg
    · cases ho : one s with
      | error e' => rw [get_err h0 ho] at hg; injection hg with hg; injection hg with h1 _; omega
      | ok q =>
        obtain ⟨o, n⟩ := q
        have h1 := one_ok ho
        rw [get_ok ho] at hg
        cases hk : get (s.drop n) with
        | error q =>
          obtain ⟨p', e'⟩ := q
          rw [hk] at hg
          simp only at hg
          injection hg with hg; injection hg with h2 _
          have := ih (s.drop n) p' e' (by simp; omega) hk
          rw [List.length_drop] at this
          omega
        | ok t => rw [hk] at hg; cases hg
theorem one_err {s : Bytes} {e : Int} (h : one s = .error e) : e = 20 ∨ e = 40 := by
  unfold one at h
  split at h
  · injection h with h; exact .inl h.symm
  · split at h
    · injection h with h; exact .inr h.symm
    · split at h
      · split at h
        · injection h with h; exact .inr h.symm
        · cases h
      · split at h
        · split at h <;> cases h
        · cases h
theorem get_err_code : ∀ (k : Nat) (s : Bytes) (p : Nat) (e : Int), s.length ≤ k → get s = .error (p, e) → e = 20 ∨ e = 40 := by
  intro k
  induction k with
  | zero =>
    intro s p e h hg
    have : s = [] := List.length_eq_zero_iff.1 (by omega)
    subst this; cases hg
  | succ k ih =>
    intro s p e h hg
    by_cases h0 : s = []
    · subst h0; cases hg
    · cases ho : one s with
      | error e' =>
        rw [get_err h0 ho] at hg; injection hg with hg; injection hg with h1 h2
        rw [← h2]; exact one_err ho
      | ok q =>
        obtain ⟨o, n⟩ := q
        have h1 := one_ok ho
        rw [get_ok ho] at hg
        cases hk : get (s.drop n) with
        | error q =>
          obtain ⟨p', e'⟩ := q
          rw [hk] at hg
          simp only at hg
          injection hg with hg; injection hg with h2 h3
          rw [← h3]
          exact ih (s.drop n) p' e' (by simp; omega) hk
        | ok t => rw [hk] at hg; cases hg
theorem takeWhile_full {p : UInt8 → Bool} {l : Bytes} (h : (l.takeWhile p).length = l.length) : l.takeWhile p = l := by
  induction l with
  | nil => rfl
  | cons c t ih =>
    by_cases hc : p c = true
    · rw [List.takeWhile_cons_of_pos hc] at h ⊢
      rw [ih (by simpa using h)]
    · rw [List.takeWhile_cons_of_neg hc] at h; simp at h
theorem cut_cases (q : UInt8) (t : Bytes) : (Go.Lib.cut t [q] = (t.takeWhile (· != q), t.drop ((t.takeWhile (· != q)).length + 1), true) ∧ (t.takeWhile (· != q)).length < t.length) ∨ (Go.Lib.cut t [q] = (t, [], false) ∧ t.takeWhile (· != q) = t) := by
  unfold Go.Lib.cut
  rw [Go.Lib.index_one]
  rcases index_span q t with ⟨h1, h2⟩ | ⟨i, h1, h2, h3⟩
  · right
    rw [h1, if_neg (by omega)]
    exact ⟨rfl, takeWhile_full h2⟩
  · left
    rw [h1, if_pos (by omega), h3]
    have : (t.take i).length = i := by simp; omega
    rw [this]
    refine ⟨?_, h2⟩
    simp
end Pl
namespace Go.Proofs.YtckfgkmfeklcmaaGreatDoor
open Go.RowKit Go.Shelf
attribute [local go_sem] Oper.semAt_some

set_option maxHeartbeats 800000 in
theorem flat1_any (x : Int) (w : World) : Calls Tryz.prog 133 #[.int .i32 x] w fun e w' => e = .returned (.int .i32 (Pl.flatR x)) ∧ w' = w := by
  by_cases h9 : x = 9
  · subst h9
    go_enter Tryz.func133, Tryz.ntmps133
    go_wp2
    go_ret
    exact ⟨rfl, rfl⟩
  · by_cases h10 : x = 10
    · subst h10
      go_enter Tryz.func133, Tryz.ntmps133
      go_wp2
      go_ret
      exact ⟨rfl, rfl⟩
    · have hb9 : (x == 9) = false := by simpa using h9
      have hb10 : (x == 10) = false := by simpa using h10
      have hr : Pl.flatR x = x := by unfold Pl.flatR; rw [if_neg (by omega)]
      have HR := Lib.hid hr
      clear h9 h10 hr
      go_enter Tryz.func133, Tryz.ntmps133
      go_wp2
      go_ret
      exact ⟨by rw [HR.out]; rfl, rfl⟩
set_option maxRecDepth 100000 in
set_option maxHeartbeats 800000 in
theorem flat_any (s : List UInt8) (w : World) (h : Env w) (hs : s.length ≤ 1000000000) :
    Calls Tryz.prog 108 #[.string (mk s)] w fun e w' => e = .returned (.string (mk (Lib.mapD Pl.flatR (Pl.lines s)))) ∧ Up w w' := by
  have H := Lib.hid h
  have hl := Pl.lines_le s
  have hsz := mk_size (Pl.lines s)
  go_enter Tryz.func108, Tryz.ntmps108
  go_wp2_with fail
  refine (lines_any s w h hs).mono ?_
  rintro e w1 ⟨rfl, hu1⟩
  have hmap := Tryz.strings_Map_grows 133 #[] (enters_of Tryz.func133 (by kernel_rfl) rfl) Pl.flatR (mk (Pl.lines s)) w1 (by omega) (fun W x hx hb => (flat1_any (x : Int) W).mono (fun e w' ⟨a, b⟩ => ⟨a, b ▸ Below.refl _ _⟩)) (fun x hx => by unfold Pl.flatR; split <;> omega) (H.out.up hu1).tabs
  rw [mk_list] at hmap
  have HM := Lib.hid hmap
  have HU := Lib.hid hu1
  clear hmap hu1 h hsz
  go_wp2_with fail
  refine HM.out.mono ?_
  rintro e w2 ⟨rfl, hu2⟩
  go_wp2_with fail
  go_ret
  exact ⟨rfl, Up.trans HU.out hu2⟩
theorem cut_any (t : List UInt8) (q : UInt8) (w : World) (h : Env w) (ht : t.length ≤ 1000000000) : Calls Tryz.prog 65 #[.string (mk t), .string (mk [q])] w fun e w' => e = .returned (.tuple #[.string (mk (Lib.cut t [q]).1), .string (mk (Lib.cut t [q]).2.1), .bool (Lib.cut t [q]).2.2]) ∧ Up w w' := by
  obtain ⟨m, hm⟩ := h.most
  have hc := Tryz.strings_Cut (mk t) (mk [q]) m w (by rw [mk_size]; omega) hm
  rw [mk_list, mk_list] at hc
  refine hc.mono ?_
  rintro e w' ⟨h1, n, rfl⟩
  exact ⟨h1, below_drewN (Up.self w) n⟩

section
variable (M b : Nat) (rest text name : List UInt8) (kind : Int) (attrs : AM) (w : World)
def valuePost (e : Ending) (w' : World) : Prop :=
  (∃ v t, Pl.valueP rest = .ok v t ∧ e = .returned (.tuple #[.string (mk v), .nilIface]) ∧ RdT M w' b t kind name attrs text) ∨ (∃ (e' : Int) (n : Nat), Pl.valueP rest = .bad e' n ∧ e = .returned (.tuple #[.string (mk []), wrongT e' n]))
set_option maxRecDepth 100000 in
set_option maxHeartbeats 3200000 in
theorem value_any (hE : EnvB M w) (hl : rest.length ≤ 1000000000) (h : RdT M w b rest kind name attrs text) :
    Calls Tryz.prog 87 #[.pointer (some ⟨b, 0, none⟩)] w fun ev w' => (valuePost M b rest text name kind attrs ev w' ∧ (∃ l, RdT M w' b l kind name attrs text)) ∧ Fr M w w' := by
  have c0 := h.cell0
  have hsz := mk_size rest
  have hnot : ∀ (x : Bool) (w : World), (Op.unary .not (.bool x)).run Tryz.prog w = .ok (.bool (!x)) w := fun _ _ => rfl
  have H := Lib.hid h
  have HE := Lib.hid hE
  have hlow := h.low
  have hMl := Nat.le_trans h.low (Nat.le_of_lt h.lt)
  clear h hE
  have hex : (mk rest).extract 0 (min 1 rest.length) = mk (rest.take 1) := by
    rw [mk_cut, List.drop_zero]
    congr 1
    cases rest <;> simp
  cases hr : rest with
  | nil =>
    subst hr
    have hq : ∀ n : Nat, (mk []).extract 0 n = mk [] := fun n => by rw [mk_cut]; simp
    have k34 : ((mk []).toList == [34]) = false := by rw [mk_toList]; rfl
    have k39 : ((mk []).toList == [39]) = false := by rw [mk_toList]; rfl
    go_enter Tryz.func87, Tryz.ntmps87
    go_wp2_with fail
    go_region
    all_goals
      have H1 := Lib.hid H.out.drew
      go_wp2_with fail
      refine (tfail_any M b [] text name kind attrs _ 50 H1.out).mono ?_
      rintro e w2 ⟨rfl, rfl⟩
      unfold wrongT
      go_wp2_with fail
      go_ret2
      exact ⟨⟨.inr ⟨50, 0, rfl, rfl⟩, _, H1.out⟩, (Fr.refl M w).drew⟩
  | cons q t =>
    subst hr
    have hq : (mk (q :: t)).extract 0 (min 1 ((t.length : Int) + 1)).toNat = mk [q] := by
      rw [show (min 1 ((t.length : Int) + 1)).toNat = 1 by omega, mk_cut]; rfl
    have htl : t.length ≤ 1000000000 := by simp at hl; omega
    clear hex
    by_cases hqq : q = 34 ∨ q = 39
    · have k : ((mk [q]).toList == [34]) = decide (q = 34) ∧ ((mk [q]).toList == [39]) = decide (q = 39) := by rw [mk_toList]; simp; exact ⟨rfl, rfl⟩
      have hv : Pl.valueP (q :: t) = match Pl.get (t.takeWhile (· != q)) with
          | .error (p, e) => .bad e (t.length - p)
          | .ok _ => if (t.takeWhile (· != q)).length == t.length then .bad 50 0 else match Pl.get (Pl.flat (t.takeWhile (· != q))) with
            | .error _ => .ok [] (t.drop ((t.takeWhile (· != q)).length + 1))
            | .ok v => .ok v (t.drop ((t.takeWhile (· != q)).length + 1)) := by
        have : (q == 34 || q == 39) = true := by simpa using hqq
        unfold Pl.valueP
        simp only [this, if_true]
        rfl
      have hcond : ((mk [q]).toList == [34]) = true ∨ (((mk [q]).toList == [34]) = false ∧ ((mk [q]).toList == [39]) = true) := by
        rw [k.1, k.2]
        rcases hqq with rfl | rfl
        · exact .inl (by decide)
        · exact .inr ⟨by decide, by decide⟩
      have HV := Lib.hid hv
      have hcut1 : (mk (q :: t)).extract 1 (t.length + 1) = mk t := by rw [mk_cut, show t.length + 1 = (q :: t).length from rfl, List.take_length]; rfl
      clear hqq k hv
      rcases hcond with k34 | ⟨k34, k39⟩
      all_goals
        go_enter Tryz.func87, Tryz.ntmps87
        go_wp2_with fail
        go_region
        have H1 := Lib.hid H.out.drew
        have f0 := H.out.free 0
        clear hq
        go_wp2_with fail
        have hb2 : Fr M w (w.setCell ⟨b, 0, none⟩ (.string (mk t))).drew := ((Fr.refl M w).set H.out 0 _).drew
        have H2 := Lib.hid ((H.out.set0 t).drew)
        generalize (w.setCell ⟨b, 0, none⟩ (.string (mk t))).drew = w2 at *
        have HB2 := Lib.hid hb2
        refine (cut_any t q w2 (HE.out.fr hb2).env htl).mono ?_
        rintro e w3 ⟨rfl, hu3⟩
        have hM2 : M ≤ w2.heap.size := Nat.le_trans hMl hb2.size
        have hb3 := hb2.trans (Fr.of_up hu3 hM2)
        have H3 := Lib.hid (H2.out.up hu3)
        have HB3 := Lib.hid hb3
        have hM3 : M ≤ w3.heap.size := Nat.le_trans hMl hb3.size
        clear hb2 hu3 c0 f0 H2 HB2
        obtain ⟨raw, hraw⟩ : ∃ raw, raw = t.takeWhile (· != q) := ⟨_, rfl⟩
        have hrawl : raw.length ≤ t.length := by rw [hraw]; exact (List.takeWhile_prefix _).length_le
        obtain ⟨found, after, hcv, hfa⟩ : ∃ (found : Bool) (after : List UInt8), Lib.cut t [q] = (raw, after, found) ∧ ((found = true ∧ after = t.drop (raw.length + 1) ∧ raw.length < t.length) ∨ (found = false ∧ after = [] ∧ raw.length = t.length)) := by
          rcases Pl.cut_cases q t with ⟨e1, e2⟩ | ⟨e1, e2⟩
          · exact ⟨true, _, by rw [e1, hraw], .inl ⟨rfl, rfl, by rw [hraw]; exact e2⟩⟩
          · exact ⟨false, [], by rw [e1, hraw, e2], .inr ⟨rfl, rfl, by rw [hraw, e2]⟩⟩
        rw [hcv]
        simp only
        have hv2 := HV.out
        rw [← hraw] at hv2
        have HV2 := Lib.hid hv2
        clear hcv hraw hb3 hv2
        go_wp2_with fail
        refine (get_any raw w3 (HE.out.fr HB3.out).env (by omega)).mono ?_
        rintro e w4 ⟨rfl, hu4⟩
        have H4 := Lib.hid (H3.out.up hu4)
        have hb4 := HB3.out.trans (Fr.of_up hu4 hM3)
        have HB4 := Lib.hid hb4
        have c4 := H4.out.cell0
        have f4 := H4.out.free 0
        have hM4 : M ≤ w4.heap.size := Nat.le_trans hMl hb4.size
        clear hu4 H3 HB3 hb4 hM3
        cases hg : Pl.get raw with
        | error pe =>
          obtain ⟨p, er⟩ := pe
          rw [getV_err hg]
          have hp : p ≤ raw.length := Pl.get_err_le _ _ _ _ (Nat.le_refl _) hg
          have hv3 := HV2.out
          rw [hg] at hv3
          have HV3 := Lib.hid hv3
          have hne : (er != 0) = true := by rcases Pl.get_err_code _ _ _ _ (Nat.le_refl _) hg with h | h <;> rw [h] <;> rfl
          have hcut := cut_end t p
          have hszt := mk_size t
          clear hv3 hg
          go_wp2_with fail
          have hb5 : Fr M w (w4.setCell ⟨b, 0, none⟩ (.string (mk (t.drop p)))) := HB4.out.set H4.out 0 _
          have H5 := Lib.hid (H4.out.set0 (t.drop p))
          generalize w4.setCell ⟨b, 0, none⟩ (.string (mk (t.drop p))) = w5 at *
          have HB5 := Lib.hid hb5
          clear hb5 c4 f4
          refine (tfail_any M b _ text name kind attrs w5 er H5.out).mono ?_
          rintro e w6 ⟨rfl, rfl⟩
          rw [List.length_drop]
          unfold wrongT
          go_wp2_with fail
          go_ret2
          exact ⟨⟨.inr ⟨er, t.length - p, HV3.out, rfl⟩, _, H5.out⟩, HB5.out⟩
        | ok v0 =>
          rw [getV_ok hg]
          have hv3 := HV2.out
          rw [hg] at hv3
          simp only at hv3
          have HV3 := Lib.hid hv3
          have hfl : Lib.mapD Pl.flatR (Pl.lines raw) = Pl.flat raw := Pl.flat_valid hg
          have HFL := Lib.hid hfl
          clear hv3 hg hfl
          rcases hfa with ⟨rfl, rfl, hlt⟩ | ⟨rfl, rfl, heq⟩
          · go_wp2_with fail
            have hb5 : Fr M w (w4.setCell ⟨b, 0, none⟩ (.string (mk (t.drop (raw.length + 1))))) := HB4.out.set H4.out 0 _
            have H5 := Lib.hid (H4.out.set0 (t.drop (raw.length + 1)))
            have hM5 : M ≤ (w4.setCell ⟨b, 0, none⟩ (.string (mk (t.drop (raw.length + 1))))).heap.size := by simpa using hM4
            generalize w4.setCell ⟨b, 0, none⟩ (.string (mk (t.drop (raw.length + 1)))) = w5 at *
            have HB5 := Lib.hid hb5
            clear hb5 c4 f4
            refine (flat_any raw w5 (HE.out.fr HB5.out).env (by omega)).mono ?_
            rintro e w6 ⟨rfl, hu6⟩
            rw [HFL.out]
            have H6 := Lib.hid (H5.out.up hu6)
            have hb6 := HB5.out.trans (Fr.of_up hu6 hM5)
            have HB6 := Lib.hid hb6
            have hM6 : M ≤ w6.heap.size := Nat.le_trans hMl hb6.size
            have hfll : (Pl.flat raw).length ≤ 1000000000 := by unfold Pl.flat; rw [List.length_map]; have := Pl.lines_le raw; omega
            clear hu6 hb6
            go_wp2_with fail
            refine (get_any (Pl.flat raw) w6 (HE.out.fr HB6.out).env hfll).mono ?_
            rintro e w7 ⟨rfl, hu7⟩
            have H7 := Lib.hid (H6.out.up hu7)
            have HB7 := Lib.hid (HB6.out.trans (Fr.of_up hu7 hM6))
            clear hu7
            have hv4 := HV3.out
            rw [if_neg (by simp; omega)] at hv4
            cases hg2 : Pl.get (Pl.flat raw) with
            | error pe =>
              obtain ⟨p, er⟩ := pe
              rw [getV_err hg2]
              rw [hg2] at hv4
              have HV4 := Lib.hid hv4
              clear hv4 hg2
              go_wp2_with fail
              go_ret2
              exact ⟨⟨.inl ⟨_, _, HV4.out, rfl, H7.out⟩, _, H7.out⟩, HB7.out⟩
            | ok v =>
              rw [getV_ok hg2]
              rw [hg2] at hv4
              have HV4 := Lib.hid hv4
              clear hv4 hg2
              go_wp2_with fail
              go_ret2
              exact ⟨⟨.inl ⟨_, _, HV4.out, rfl, H7.out⟩, _, H7.out⟩, HB7.out⟩
          · go_wp2_with fail
            have hb5 : Fr M w (w4.setCell ⟨b, 0, none⟩ (.string (mk []))) := HB4.out.set H4.out 0 _
            have H5 := Lib.hid (H4.out.set0 [])
            generalize w4.setCell ⟨b, 0, none⟩ (.string (mk [])) = w5 at *
            have HB5 := Lib.hid hb5
            clear hb5 c4 f4
            refine (tfail_any M b _ text name kind attrs w5 50 H5.out).mono ?_
            rintro e w6 ⟨rfl, rfl⟩
            unfold wrongT
            go_wp2_with fail
            go_ret2
            have hv4 := HV3.out
            rw [if_pos (by simp; omega)] at hv4
            exact ⟨⟨.inr ⟨50, 0, hv4, rfl⟩, _, H5.out⟩, HB5.out⟩
    · have h34 : q ≠ 34 := fun e => hqq (.inl e)
      have h39 : q ≠ 39 := fun e => hqq (.inr e)
      have k34 : ((mk [q]).toList == [34]) = false := by rw [mk_toList]; simpa using h34
      have k39 : ((mk [q]).toList == [39]) = false := by rw [mk_toList]; simpa using h39
      have hv : Pl.valueP (q :: t) = .bad 50 (q :: t).length := by
        have h : (q == 34 || q == 39) = false := by simp [h34, h39]
        unfold Pl.valueP
        simp [h]
      have HV := Lib.hid hv
      clear hv hqq h34 h39
      go_enter Tryz.func87, Tryz.ntmps87
      go_wp2_with fail
      go_region
      all_goals
        have H1 := Lib.hid H.out.drew
        go_wp2_with fail
        refine (tfail_any M b (q :: t) text name kind attrs _ 50 H1.out).mono ?_
        rintro e w2 ⟨rfl, rfl⟩
        unfold wrongT
        go_wp2_with fail
        go_ret2
        exact ⟨⟨.inr ⟨50, _, HV.out, rfl⟩, _, H1.out⟩, (Fr.refl M w).drew⟩
end
end Go.Proofs.YtckfgkmfeklcmaaGreatDoor

/- Tokens: going through a name's runes. -/
namespace Pl
theorem nameLenF_fuel (k : Nat) : ∀ k' f s, s.length ≤ k → s.length ≤ k' → nameLenF k f s = nameLenF k' f s := by
  induction k with
  | zero =>
    intro k' f s h h'
    have : s = [] := List.length_eq_zero_iff.1 (by omega)
    subst this
    cases k' <;> rfl
  | succ k ih =>
    intro k' f s h h'
    cases k' with
    | zero =>
      have : s = [] := List.length_eq_zero_iff.1 (by omega)
      subst this; rfl
    | succ k' =>
      unfold nameLenF
      cases hd : dec s with
      | none => rfl
      | some p =>
        obtain ⟨r, n⟩ := p
        have hl := dec_len hd
        simp only
        rw [ih k' false (s.drop n) (by simp; omega) (by simp; omega)]
end Pl
namespace Go.Proofs.YtckfgkmfeklcmaaGreatDoor
open Go.RowKit Go.Shelf
attribute [local go_sem] Oper.semAt_some

def nameB (first : Bool) (r : Nat) : Bool := Pl.isFirst r || (!first && Pl.isOther r)
set_option maxHeartbeats 800000 in
theorem name1_any (first : Bool) (r : Nat) (w : World) : Calls Tryz.prog 83 #[.bool first, .int .i64 (r : Int)] w fun e w' => e = .returned (.bool (nameB first r)) ∧ Up w w' := by
  have hnot : ∀ (x : Bool) (w : World), (Op.unary .not (.bool x)).run Tryz.prog w = .ok (.bool (!x)) w := fun _ _ => rfl
  go_enter Tryz.func83, Tryz.ntmps83
  go_wp2_with fail
  refine (isFirst_any (r : Int) w).mono ?_
  rintro e w1 ⟨rfl, hu1⟩
  rw [isFirstI_nat]
  have HU1 := Lib.hid hu1
  clear hu1
  cases hf : Pl.isFirst r
  · have HF := Lib.hid hf
    clear hf
    cases first
    · go_wp2_with fail
      refine (isOther_any (r : Int) w1).mono ?_
      rintro e w2 ⟨rfl, hu2⟩
      rw [isOtherI_nat]
      have HU2 := Lib.hid (Up.trans HU1.out hu2)
      clear hu2
      cases ho : Pl.isOther r
      all_goals
        have HO := Lib.hid ho
        clear ho
        go_wp2_with fail
        go_ret
        exact ⟨by unfold nameB; rw [HF.out, HO.out]; rfl, HU2.out⟩
    · go_wp2_with fail
      go_ret
      exact ⟨by unfold nameB; rw [HF.out]; rfl, HU1.out⟩
  · have HF := Lib.hid hf
    clear hf
    go_wp2_with fail
    go_ret
    exact ⟨by unfold nameB; rw [HF.out]; rfl, HU1.out⟩

set_option maxRecDepth 100000 in
set_option maxHeartbeats 3200000 in
theorem truns_seq (p q : Nat) (s : List UInt8) (w : World) (hp : w.heap[p]? = some (.cells #[.string (mk s)] 9 (0, 0))) (hq : w.heap[q]? = some (.cells #[.func (.func 83) #[] #[]] 157 (0, 0))) (hs : s.length ≤ 1000000000) :
    SeqC (α := Nat) Tryz.prog 100 #[.pointer (some ⟨p, 0, none⟩), .pointer (some ⟨q, 0, none⟩)] (fun n => #[.int .i64 (n : Int)]) (fun _ => False) (fun k => k = p ∨ k = q) (fun pre n => pre.sum + n ≤ s.length)
      (fun xs _ => xs.sum = Pl.nameLen s) (fun _ _ => True) w := by
  intro n l J Jx W hJ hJx hY h0 hK
  have hp1 := (hK.same p (.inl rfl)).trans hp
  have hq1 := (hK.same q (.inr rfl)).trans hq
  have HJ := Lib.hid hJ
  have HY := Lib.hid hY
  have hsz := mk_size s
  have hnot : ∀ (x : Bool) (w : World), (Op.unary .not (.bool x)).run Tryz.prog w = .ok (.bool (!x)) w := fun _ _ => rfl
  clear hp hq hK hJ hJx hY
  refine callsIn_of_wp Tryz.func100 rfl trivial ?_ rfl
  simp only [Tryz.ntmps100, List.size_toArray, List.length_cons, List.length_nil, Nat.reduceAdd, Nat.reduceSub, Array.replicate_succ, Array.replicate_zero, List.push_toArray, List.append_toArray, List.nil_append, List.cons_append]
  refine wpIn_scope_straight ?_
  gi_wp2_with (apply wpIn_label)
  gi_loopw [4, 5, 6, 7] (fun a _ _ _ wr => ∃ (pre : List Nat), a = .int .i64 ((pre.sum : Nat) : Int) ∧ wr.heap[p]? = some (.cells #[.string (mk s)] 9 (0, 0)) ∧ wr.heap[q]? = some (.cells #[.func (.func 83) #[] #[]] 157 (0, 0)) ∧
      pre.sum ≤ s.length ∧ Pl.nameLen s = pre.sum + Pl.nameLenF (s.length - pre.sum) (decide (pre.sum = 0)) (s.drop pre.sum) ∧ J pre wr) (fun a _ _ _ _ => s.length - (intOf a).toNat)
  case atStart => exact ⟨[], rfl, hp1, hq1, by simp, by simp [Pl.nameLen], h0⟩
  case round =>
    obtain ⟨pre, rfl, hp2, hq2, hle, hnl, hj⟩ := hrel
    have HP := Lib.hid hp2
    have HQ := Lib.hid hq2
    have HJ1 := Lib.hid hj
    have HNL := Lib.hid hnl
    have cp := cell_of_one hp2
    clear hp2 hq2 hj hnl hp1 hq1 h0
    obtain ⟨at', hat⟩ : ∃ a, a = pre.sum := ⟨_, rfl⟩
    rw [← hat] at hle ⊢
    have HAT := Lib.hid hat
    clear hat
    by_cases hlt : at' < s.length
    · have hcut := cut_end s at'
      have hdl : (s.drop at').length ≤ 1000000000 := by simp; omega
      gi_wp2_with fail
      refine wide_call ((callsIn_wide.2 (decode_any (s.drop at') wr (by omega))).mono ?_)
      rintro e w1 ⟨rfl, hu1⟩
      have HP1 := Lib.hid ((hu1.block p (lt_of_block HP.out)).trans HP.out)
      have HQ1 := Lib.hid ((hu1.block q (lt_of_block HQ.out)).trans HQ.out)
      have HJ2 := Lib.hid (HJ.out _ _ _ HJ1.out (ItTurns.of_up hu1))
      clear hu1 cp hcut
      obtain ⟨k, hk⟩ : ∃ k, s.length - at' = k + 1 := ⟨s.length - at' - 1, by omega⟩
      have hstep : Pl.nameLenF (k + 1) (decide (at' = 0)) (s.drop at') = match Pl.dec (s.drop at') with | none => 0 | some (r, n) => if Pl.isFirst r || (!decide (at' = 0) && Pl.isOther r) then n + Pl.nameLenF k false ((s.drop at').drop n) else 0 := rfl
      have hnl2 := HNL.out
      rw [← HAT.out, hk, hstep] at hnl2
      cases hd : Pl.dec (s.drop at') with
      | none =>
        obtain ⟨z1, z2, z3⟩ := decE_none hd
        rw [hd] at hnl2
        have HN2 := Lib.hid hnl2
        have hz : (decE (s.drop at') != 0) = true := by simpa using z3
        rw [z1, z2]
        generalize decE (s.drop at') = de at *
        clear hd hnl2 hstep z1 z2
        gi_wp2_with fail
        refine And.intro (fun f hf => nomatch hf) ?_
        gi_wp2_with fail
        refine And.intro (fun f hf => nomatch hf) ?_
        gi_wp2_with fail
        rw [noGoto_normal]
        refine bodyPost_end (results_none rfl _ _ _) rfl ?_
        exact ⟨⟨_, rfl⟩, .inl ⟨pre, by rw [HN2.out, ← HAT.out]; rfl, HJ2.out⟩⟩
      | some pr =>
        obtain ⟨r, m⟩ := pr
        obtain ⟨z1, z2, z3⟩ := decE_some hd
        obtain ⟨b1, b2, b3, b4⟩ := dec_bounds hd
        rw [hd] at hnl2
        have HN2 := Lib.hid hnl2
        rw [z1, z2, z3]
        have cq := cell_of_one HQ1.out
        have hml : at' + m ≤ s.length := by simp at b2; omega
        clear hd hnl2 hstep z1 z2 z3 b2
        gi_wp2_with fail
        have hb0 : ((at' : Int) == 0) = decide (at' = 0) := by
          by_cases h : at' = 0
          · subst h; rfl
          · have : ¬ (at' : Int) = 0 := by omega
            simp [h]
        rw [hb0]
        clear hb0
        refine wide_call ((callsIn_wide.2 (name1_any (decide (at' = 0)) r w1)).mono ?_)
        rintro e w2 ⟨rfl, hu2⟩
        have HP2 := Lib.hid ((hu2.block p (lt_of_block HP1.out)).trans HP1.out)
        have HQ2 := Lib.hid ((hu2.block q (lt_of_block HQ1.out)).trans HQ1.out)
        have HJ3 := Lib.hid (HJ.out _ _ _ HJ2.out (ItTurns.of_up hu2))
        clear hu2 cq
        have hn3 := HN2.out
        cases hnb : nameB (decide (at' = 0)) r
        · have hc : (Pl.isFirst r || (!decide (at' = 0) && Pl.isOther r)) = false := hnb
          rw [hc] at hn3
          rw [if_neg (by decide)] at hn3
          have HN3 := Lib.hid hn3
          clear hn3 hc hnb
          gi_wp2_with fail
          refine And.intro (fun f hf => nomatch hf) ?_
          gi_wp2_with fail
          rw [noGoto_normal]
          refine bodyPost_end (results_none rfl _ _ _) rfl ?_
          exact ⟨⟨_, rfl⟩, .inl ⟨pre, by rw [HN3.out, ← HAT.out]; rfl, HJ3.out⟩⟩
        · have hc : (Pl.isFirst r || (!decide (at' = 0) && Pl.isOther r)) = true := hnb
          rw [hc, if_pos rfl] at hn3
          have HN3 := Lib.hid hn3
          obtain ⟨fn, tmps, assign, body, hy, hR⟩ := HY.out pre m w2 HJ3.out (by rw [← HAT.out]; exact hml)
          have HRR := Lib.hid hR
          clear hn3 hc hnb hR
          gi_wp2_with fail
          refine ⟨fun h => by simp [Fence.wide] at h, HRR.out.mono ?_⟩
          rintro e W3 (⟨rfl, hj6, hk6⟩ | ⟨rfl, hj6, hk6⟩)
          · have HP6 := Lib.hid ((hk6.same p (.inl rfl)).trans HP2.out)
            have HQ6 := Lib.hid ((hk6.same q (.inr rfl)).trans HQ2.out)
            have HJ6 := Lib.hid hj6
            have hsum : ((pre ++ [m]).sum : Nat) = at' + m := by rw [HAT.out]; simp
            have HSUM := Lib.hid hsum
            clear hj6 hk6 hy hsum
            gi_wp2_with fail
            go_roundw
            case rel =>
              refine ⟨pre ++ [m], ?_, HP6.out, HQ6.out, by rw [HSUM.out]; exact hml, ?_, HJ6.out⟩
              · rw [HSUM.out]; rfl
              · rw [HSUM.out, HN3.out]
                have h1 : decide (at' + m = 0) = false := by simp; omega
                rw [h1, List.drop_drop, Pl.nameLenF_fuel k (s.length - (at' + m)) false (s.drop (at' + m)) (by simp; omega) (by simp)]
                omega
            case measure => simp [intOf]; omega
          · have HJ6 := Lib.hid hj6
            clear hj6 hk6 hy
            gi_wp2_with fail
            rw [noGoto_normal]
            refine bodyPost_end (results_none rfl _ _ _) rfl ?_
            exact ⟨⟨_, rfl⟩, .inr ⟨_, trivial, HJ6.out⟩⟩
    · have he : at' = s.length := by omega
      have hn2 := HNL.out
      rw [← HAT.out, he, Nat.sub_self] at hn2
      have HN2 := Lib.hid hn2
      clear hn2
      gi_wp2_with fail
      rw [noGoto_normal]
      refine bodyPost_end (results_none rfl _ _ _) rfl ?_
      exact ⟨⟨_, rfl⟩, .inl ⟨pre, by rw [HN2.out, ← HAT.out, he]; rfl, HJ1.out⟩⟩
end Go.Proofs.YtckfgkmfeklcmaaGreatDoor

/- Tokens: a name. -/
namespace Go.Proofs.YtckfgkmfeklcmaaGreatDoor
open Go.RowKit Go.Shelf
attribute [local go_sem] Oper.semAt_some

set_option maxHeartbeats 400000 in
theorem truns_make (s : ByteArray) (f : Value) (hf : f = .func (.func 83) #[] #[]) (w : World) : Calls Tryz.prog 82 #[.string s, f] w fun e w' =>
    e = .returned (.func (.func 100) #[] #[.pointer (some ⟨w.heap.size, 0, none⟩), .pointer (some ⟨w.heap.size + 1, 0, none⟩)]) ∧ w' = (w.alloc (.cells #[.string s] 9)).alloc (.cells #[f] 157) := by
  have hmf := @run_makeFunc Tryz.prog
  subst hf
  go_enter Tryz.func82, Tryz.ntmps82
  go_wp2
  go_ret
  exact ⟨rfl, rfl⟩
theorem Tryz.enters_truns (args : Array Value) (w : World) : (callFunc 100 args).run Tryz.prog w = .ok (.enter 100 args) w := enters_of Tryz.func100 (by kernel_rfl) rfl args w

theorem RdT.putD {M b D : Nat} {w : World} {rest text name : List UInt8} {kind : Int} {attrs : AM} {x : Option (List Deferred)} {o : Obj} (h : RdT M w b rest kind name attrs text) (hD : w.heap[D]? = some (.deferred x)) : RdT M (w.putObj D o) b rest kind name attrs text := by
  obtain ⟨v, mb, h1, h2, h3, h4⟩ := h.lay
  refine ⟨h.low, v, mb, (World.putObj_heap_other (fun e => by rw [e] at h1; rw [hD] at h1; cases h1)).trans h1, row_keeps h2 (fun g c hg => (World.putObj_heap_other (fun e => by rw [e] at hg; rw [hD] at hg; cases hg)).trans hg), h3, h4.same (World.putObj_heap_other (fun e => ?_))⟩
  obtain ⟨es, cl, hh, _⟩ := h4
  rw [e] at hh; rw [hD] at hh; cases hh
section
variable (M b : Nat) (rest text name : List UInt8) (kind : Int) (attrs : AM) (w : World)
def namePost (e : Ending) (w' : World) : Prop :=
  (∃ nm t, Pl.nameP rest = .ok nm t ∧ e = .returned (.tuple #[.string (mk nm), .nilIface]) ∧ RdT M w' b t kind name attrs text) ∨ (Pl.nameP rest = .bad 50 rest.length ∧ e = .returned (.tuple #[.string (mk []), wrongT 50 rest.length]) ∧ RdT M w' b rest kind name attrs text)

set_option maxRecDepth 100000 in
set_option maxHeartbeats 3200000 in
theorem name_any (hl : rest.length ≤ 1000000000) (h : RdT M w b rest kind name attrs text) :
    Calls Tryz.prog 61 #[.pointer (some ⟨b, 0, none⟩)] w fun ev w' => namePost M b rest text name kind attrs ev w' ∧ Fr M w w' := by
  refine (callsIn_wide (n := 3)).1 ?_
  have H := Lib.hid h
  have hMb := h.low
  have hbl := h.lt
  have c0 := h.cell0
  clear h
  refine callsIn_of_wp_marks Tryz.func61 rfl trivial ?_ rfl
  simp only [Tryz.ntmps61, List.size_toArray, List.length_cons, List.length_nil, Nat.reduceAdd, Nat.reduceSub, Array.replicate_succ, Array.replicate_zero, List.push_toArray, List.append_toArray, List.nil_append, List.cons_append]
  gi_wp2_with fail
  refine ⟨trivial, (callsIn_wide.2 (truns_make _ _ rfl _)).mono ?_⟩
  rintro e w1 ⟨rfl, hw1⟩
  have hsz1 : w1.heap.size = w.heap.size + 3 := by rw [hw1]; simp
  have hsb : w1.heap[w.heap.size]? = some (.cells #[.int .i64 0] 3 (0, 0)) := by
    rw [hw1, Below.heap_alloc _ _ _ (by simp <;> omega), Below.heap_alloc _ _ _ (by simp)]; exact heap_new rfl
  have hp : w1.heap[w.heap.size + 1]? = some (.cells #[.string (mk rest)] 9 (0, 0)) := by
    rw [hw1, Below.heap_alloc _ _ _ (by simp)]; exact heap_new (by simp)
  have hq : w1.heap[w.heap.size + 2]? = some (.cells #[.func (.func 83) #[] #[]] 157 (0, 0)) := by
    rw [hw1]; exact heap_new (by simp)
  have hu : Up w w1 := by rw [hw1]; exact (((Up.self w).alloc _).alloc _).alloc _
  rw [show (w.alloc (Obj.cells #[Value.int IntKind.i64 0] 3)).heap.size = w.heap.size + 1 from by simp]
  have HSB := Lib.hid hsb
  have HP := Lib.hid hp
  have HQ := Lib.hid hq
  have HU := Lib.hid hu
  have HSZ := Lib.hid hsz1
  clear hsb hp hq hu hsz1 hw1
  gi_wp2_with fail
  refine wpIn_rangeC (gf := 100) (lb := #[.pointer (some ⟨w.heap.size + 1, 0, none⟩), .pointer (some ⟨w.heap.size + 2, 0, none⟩)]) rfl Tryz.enters_truns (truns_seq (w.heap.size + 1) (w.heap.size + 2) rest w1 HP.out HQ.out hl) (by have := HSZ.out; intro k hk; omega)
    (fun _ _ _ h _ => h) (fun _ _ _ _ _ => trivial) (fun _ => rfl)
    (fun pre W => W.heap[w.heap.size]? = some (.cells #[.int .i64 ((pre.sum : Nat) : Int)] 3 (0, 0)) ∧ Up w W)
    (fun _ _ _ => False) ?hI (fun _ _ _ _ h _ => h) ⟨HSB.out, HU.out⟩
    (fun n => { tmps := #[Value.pointer (some { block := b, off := 0 }), undef, Value.string { data := #[] }, Value.nilIface,
            Value.pointer (some { block := w.heap.size, off := 0 }), Value.int .i64 (n : Int), undef,
            Value.pointer (some { block := b, off := 0 }), Value.pointer (some { block := b, off := 0 }),
            Value.pointer (some { block := b, off := 0 }), Value.pointer (some { block := b, off := 0 }),
            Value.string (mk rest), Value.func (Fn.func 100) #[] #[Value.pointer (some ⟨w.heap.size + 1, 0, none⟩), Value.pointer (some ⟨w.heap.size + 2, 0, none⟩)], Value.int .i64 (n : Int), undef, undef, undef, undef, undef, undef, undef, undef, undef, undef, undef, undef, undef, undef, undef, undef, undef, undef, undef, undef, undef, undef, undef, undef, undef, undef, undef, undef, undef, undef], defers := [] }) (by intro k hk; exact hk.elim) ?assign ?body ?done ?stop
  case hI =>
    rintro pre A B ⟨h1, h2⟩ ht
    exact ⟨ht.cells h1 (fun e => e), ht.below h2 (by have := HSZ.out; omega) (Nat.le_refl _) (fun _ _ e => e)⟩
  case assign =>
    intro l x W K hK
    gi_wp2
    exact hK
  case body =>
    rintro l pre n W ⟨hsb, hup⟩ hle hsz
    have cs := cell_of_one hsb
    have fs := free_of_one hsb
    have hwr : IntKind.i64.wrap ((pre.sum : Nat) : Int) = ((pre.sum : Nat) : Int) := i64_in _ (by omega) (by omega)
    have HSB1 := Lib.hid hsb
    have HUP1 := Lib.hid hup
    have hlw : w.heap.size < W.heap.size := lt_of_block hsb
    obtain ⟨sm, hsm⟩ : ∃ sm, sm = pre.sum := ⟨_, rfl⟩
    rw [← hsm] at cs hle hwr
    have HSM := Lib.hid hsm
    clear hsb hup hsz hsm
    gi_wp2_with fail
    refine ⟨KeepsOthers.setCell _ _ _, ⟨by simp, fun k hk => Below.heap_setCell _ _ _ _ (by show k ≠ w.heap.size; omega)⟩, ?_, Below.setCell HUP1.out (p := ⟨w.heap.size, 0, none⟩) (Nat.le_refl _) _⟩
    rw [show ((pre ++ [n]).sum : Nat) = sm + n by rw [HSM.out]; simp]
    have := heap_setCell_at (i := 0) (v := .int .i64 ((sm : Int) + n)) HSB1.out
    exact this
  case done =>
    rintro D xs W hx ⟨hsb, hup⟩ hK hD
    have hx' : xs.sum = Pl.nameLen rest := hx
    rw [hx'] at hsb
    have cs := cell_of_one hsb
    have HUP1 := Lib.hid hup
    have HR1 := Lib.hid (H.out.up hup)
    have HK := Lib.hid hK
    have hDl : w.heap.size + 3 ≤ D := by have := HSZ.out; omega
    have hle : Pl.nameLen rest ≤ rest.length := Pl.nameLenF_le _ _ _
    have hnp : Pl.nameP rest = if Pl.nameLen rest == 0 || Pl.nameLen rest > 400 then .bad 50 rest.length else .ok (rest.take (Pl.nameLen rest)) (rest.drop (Pl.nameLen rest)) := rfl
    obtain ⟨n, hn⟩ : ∃ n, n = Pl.nameLen rest := ⟨_, rfl⟩
    rw [← hn] at cs hle hnp
    have HNP := Lib.hid hnp
    have hMw : M ≤ w.heap.size := by omega
    clear hsb hup hK hx hx' hn hnp c0
    have c0 := HR1.out.cell0
    have f0 := HR1.out.free 0
    by_cases hbad : n = 0 ∨ 400 < n
    · have hnp := HNP.out
      rw [if_pos (by simp; omega)] at hnp
      have HNP2 := Lib.hid hnp
      clear hnp
      rcases (show n = 0 ∨ (¬ n = 0 ∧ 400 < n) by omega) with rfl | ⟨hn0, hn4⟩
      all_goals
        first
        | (have hb0 : ((n : Int) == 0) = false := by simpa using hn0)
        | skip
        first
        | (have hb4 : (400 : Int) < (n : Int) := by omega)
        | skip
        gi_wp2_with fail
        refine ⟨trivial, callsIn_wide.2 ((tfail_any M b rest text name kind attrs W 50 HR1.out).mono ?_)⟩
        rintro e w4 ⟨rfl, rfl⟩
        gi_wp2_with fail
        refine ⟨by simp, .inl ⟨_, _, rfl, run_takeDeferred (w := w4) HK.out, ?_⟩⟩
        refine ⟨_, results_tmp2 rfl _ _ _, ?_⟩
        exact ⟨.inr ⟨HNP2.out, rfl, HR1.out.putD HK.out⟩, (Fr.of_up HUP1.out hMw).putD HK.out (by omega)⟩
    · have hnp := HNP.out
      rw [if_neg (by simp; omega)] at hnp
      have HNP2 := Lib.hid hnp
      have hb0 : ((n : Int) == 0) = false := by
        have : ¬ (n : Int) = 0 := by omega
        simpa using this
      have hb4 : ¬ (400 : Int) < (n : Int) := by omega
      have hex : (mk rest).extract 0 n = mk (rest.take n) := by rw [mk_cut, List.drop_zero]
      have hcut := cut_end rest n
      have hsz := mk_size rest
      clear hnp
      gi_wp2_with fail
      gi_region
      all_goals
        gi_wp2_with fail
        gi_region
        all_goals
          have hD4 : (W.setCell ⟨b, 0, none⟩ (Value.string (mk (List.drop n rest)))).drew.drew.heap[D]? = some (.deferred (some [])) := (Below.heap_setCell W ⟨b, 0, none⟩ _ D (by show D ≠ b; omega)).trans HK.out
          have HR4 := Lib.hid (((HR1.out.set0 (rest.drop n)).drew).drew)
          have hb4' : Fr M w (W.setCell ⟨b, 0, none⟩ (Value.string (mk (List.drop n rest)))).drew.drew := (((Fr.of_up HUP1.out hMw).set HR1.out 0 _).drew).drew
          generalize (W.setCell ⟨b, 0, none⟩ (Value.string (mk (List.drop n rest)))).drew.drew = w4 at *
          have HD4 := Lib.hid hD4
          have HB4 := Lib.hid hb4'
          clear hD4 hb4'
          gi_wp2_with fail
          refine ⟨by simp, .inl ⟨_, _, rfl, run_takeDeferred (w := w4) HD4.out, ?_⟩⟩
          refine ⟨_, results_tmp2 rfl _ _ _, ?_⟩
          exact ⟨.inl ⟨_, _, HNP2.out, rfl, HR4.out.putD HD4.out⟩, HB4.out.putD HD4.out (by omega)⟩
  case stop =>
    rintro D c pre W _ h _ _
    exact h.elim
end
end Go.Proofs.YtckfgkmfeklcmaaGreatDoor
