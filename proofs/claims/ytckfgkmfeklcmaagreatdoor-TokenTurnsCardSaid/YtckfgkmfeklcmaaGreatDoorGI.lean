/- The texts AsEsc, EscJ of this claim in one: the walks and plain laws that the statement's proof rests on. -/
import Derived.Test.YtckfgkmfeklcmaaGreatDoorGH
import Derived.Stop.Asserts
set_option linter.unusedVariables false
set_option linter.unusedSimpArgs false
/- errors.As at a target of a struct's type: the error nil, or of that very type (turned from the guide's worked toy 'toyas'). -/
namespace Go.Proofs.YtckfgkmfeklcmaaGreatDoor
open Go.RowKit Go.Shelf Go.Extern.Stop Go.Stop Go.Extern

theorem as_nil (t : Value) (w : World) : Calls Tryz.prog 25 #[.nilIface, t] w fun e w' => e = .returned (.bool false) ∧ w' = w := by
  go_enter Tryz.func25, Tryz.ntmps25
  go_wp2
  go_ret
  exact ⟨rfl, rfl⟩
theorem rlm (z : Sem Value) (f : TypeId → Addr → Nat → Nat → Sem Value) (v : Value) :
    ReflectliteValue.method z f #[v] = (do match ← ReflectliteValue.parts v with | none => z | some (t, a, fl) => f t a fl (fl % 32)) := rfl
theorem rls (v x : Value) : ReflectliteValue.set #[v, x] = (do
    let (some (dst, a, fl), some (src, b, _)) := (← ReflectliteValue.parts v, ← ReflectliteValue.parts x)
      | unsupported (.noEntry "extern/(internal/reflectlite.Value).Set.zeroValue")
    if fl / ReflectliteValue.flagAddr % 2 == 0 then unsupported (.noEntry "extern/(internal/reflectlite.Value).Set.unaddressable")
    let val ← loadVar src b
    if ← Rtype.directlyAssignable dst src then storeVar dst a val
    else if ← Rtype.implements dst src then
      if (← Rtype.kind src) == 20 then
        match val with
        | .nilIface => unsupported (.noEntry "extern/reflectlite: a nil value of one interface type handed on as a value of another")
        | _ => storeVar dst a val
      else storeVar dst a (.iface src val)
    else panicString ("reflectlite.Set: value of type " ++ (← Rtype.spelt src) ++ " is not assignable to type " ++ (← Rtype.spelt dst))
    pure (.tuple #[])) := rfl
theorem methodKind (h : Value) (w : World) : (Go.method 408 108 (.agg #[h]) "Kind").run Tryz.prog w = .ok (215, h) w := by kernel_rfl
theorem methodElem (h : Value) (w : World) : (Go.method 408 108 (.agg #[h]) "Elem").run Tryz.prog w = .ok (226, .agg #[h]) w := by kernel_rfl
theorem methodImplements (h : Value) (w : World) : (Go.method 408 108 (.agg #[h]) "Implements").run Tryz.prog w = .ok (227, .agg #[h]) w := by kernel_rfl
theorem methodAssignableTo (h : Value) (w : World) : (Go.method 408 108 (.agg #[h]) "AssignableTo").run Tryz.prog w = .ok (224, .agg #[h]) w := by kernel_rfl

/-! at one struct's type -/
theorem eW_valueOf (t : Addr) (w : World) : (ReflectliteValue.unpack (.iface 193 (.pointer (some t)))).run Tryz.prog w
    = .ok (.agg #[.pointer (some ⟨6, 193, none⟩), .pointer (some ⟨w.heap.size, 0, none⟩), .int .u64 150]) (w.alloc (.cells #[.pointer (some t)] 193)) := by kernel_rfl
theorem eW_type (a : Addr) (w : World) : (ReflectliteValue.methodAny (ReflectliteValue.valueError "reflectlite.Value.Type" 0) (fun t _ _ _ => ReflectliteType.toType t) #[.agg #[.pointer (some ⟨6, 193, none⟩), .pointer (some a), .int .u64 150]]).run Tryz.prog w
    = .ok (.iface 108 (.agg #[.pointer (some ⟨6, 193, none⟩)])) w := by kernel_rfl
theorem eW_kindP (w : World) : ((ReflectliteType.abiMethod fun t => (fun a : Nat => Value.int IntKind.u8 (a : Int)) <$> Rtype.kind t) #[.pointer (some ⟨6, 193, none⟩)]).run Tryz.prog w = .ok (.int .u8 22) w := by kernel_rfl
theorem eW_kindS (w : World) : ((ReflectliteType.abiMethod fun t => (fun a : Nat => Value.int IntKind.u8 (a : Int)) <$> Rtype.kind t) #[.pointer (some ⟨6, 192, none⟩)]).run Tryz.prog w = .ok (.int .u8 25) w := by kernel_rfl
theorem eW_parts (a : Addr) (w : World) : (ReflectliteValue.parts (.agg #[.pointer (some ⟨6, 193, none⟩), .pointer (some a), .int .u64 150])).run Tryz.prog w = .ok (some (193, a, 150)) w := by kernel_rfl
theorem eW_isNil (a p : Addr) (W : World) (ha : W.cell? a = some (.pointer (some p))) :
    (ReflectliteValue.method (ReflectliteValue.valueError "reflectlite.Value.IsNil" 0) ReflectliteValue.isNil #[.agg #[.pointer (some ⟨6, 193, none⟩), .pointer (some a), .int .u64 150]]).run Tryz.prog W = .ok (.bool false) W := by
  rw [rlm]
  simp only [Sem.run_bind, eW_parts, Result.andThen]
  simp [ReflectliteValue.isNil, loadVar, isAgg, underlying, Tryz.underlying193, ha, Result.andThen]
theorem eW_elem (w : World) : (ReflectliteType.method ReflectliteType.elem #[.agg #[.pointer (some ⟨6, 193, none⟩)]]).run Tryz.prog w = .ok (.iface 108 (.agg #[.pointer (some ⟨6, 192, none⟩)])) w := by kernel_rfl
theorem eW_implements (w : World) : (ReflectliteType.relation "Implements" ReflectliteType.implements_ #[.agg #[.pointer (some ⟨6, 192, none⟩)], .iface 108 (.agg #[.pointer (some ⟨6, 49, none⟩)])]).run Tryz.prog w = .ok (.bool true) w := by kernel_rfl
theorem eW_typeOf (v : Value) (w : World) : (ReflectliteType.typeOf #[.iface 192 v]).run Tryz.prog w = .ok (.iface 108 (.agg #[.pointer (some ⟨6, 192, none⟩)])) w := by kernel_rfl
theorem eW_assignable (w : World) : (ReflectliteType.relation "AssignableTo" ReflectliteType.assignableTo #[.agg #[.pointer (some ⟨6, 192, none⟩)], .iface 108 (.agg #[.pointer (some ⟨6, 192, none⟩)])]).run Tryz.prog w = .ok (.bool true) w := by kernel_rfl
theorem eW_valueOfS (a b : Int) (w : World) : (ReflectliteValue.unpack (.iface 192 (.agg #[.int .i64 a, .int .i64 b]))).run Tryz.prog w
    = .ok (.agg #[.pointer (some ⟨6, 192, none⟩), .pointer (some ⟨w.heap.size, 0, none⟩), .int .u64 153]) (w.alloc (.cells #[.int .i64 a, .int .i64 b] 192)) := by kernel_rfl
theorem eW_elemOf (w : World) : (Rtype.elem? 193).run Tryz.prog w = .ok (some 192) w := by kernel_rfl
theorem eW_mk (p : Addr) (w : World) : (ReflectliteValue.mk 192 p ReflectliteValue.flagAddr).run Tryz.prog w = .ok (.agg #[.pointer (some ⟨6, 192, none⟩), .pointer (some p), .int .u64 409]) w := by kernel_rfl
theorem eW_elemV (a p : Addr) (W : World) (ha : W.cell? a = some (.pointer (some p))) :
    (ReflectliteValue.method (ReflectliteValue.valueError "reflectlite.Value.Elem" 0) ReflectliteValue.elem #[.agg #[.pointer (some ⟨6, 193, none⟩), .pointer (some a), .int .u64 150]]).run Tryz.prog W
      = .ok (.agg #[.pointer (some ⟨6, 192, none⟩), .pointer (some p), .int .u64 409]) W := by
  rw [rlm]
  simp only [Sem.run_bind, eW_parts, Result.andThen]
  simp [ReflectliteValue.elem, loadVar, isAgg, underlying, Tryz.underlying193, ha, Result.andThen, eW_elemOf, eW_mk]
theorem eW_partsA (a : Addr) (w : World) : (ReflectliteValue.parts (.agg #[.pointer (some ⟨6, 192, none⟩), .pointer (some a), .int .u64 409])).run Tryz.prog w = .ok (some (192, a, 409)) w := by kernel_rfl
theorem eW_partsS (a : Addr) (w : World) : (ReflectliteValue.parts (.agg #[.pointer (some ⟨6, 192, none⟩), .pointer (some a), .int .u64 153])).run Tryz.prog w = .ok (some (192, a, 153)) w := by kernel_rfl
theorem eW_direct (w : World) : (Rtype.directlyAssignable 192 192).run Tryz.prog w = .ok true w := by kernel_rfl
theorem eW_size (w : World) : (sizeOf 192).run Tryz.prog w = .ok 2 w := by kernel_rfl
theorem eW_agg (w : World) : (isAgg 192).run Tryz.prog w = .ok true w := by kernel_rfl
theorem eW_load (b : Nat) (x y : Int) (W : World) (h0 : W.cell? ⟨b, 0, none⟩ = some (.int .i64 x)) (h1 : W.cell? ⟨b, 1, none⟩ = some (.int .i64 y)) : (loadVar 192 ⟨b, 0, none⟩).run Tryz.prog W = .ok (.agg #[.int .i64 x, .int .i64 y]) W := by
  unfold loadVar
  simp only [Sem.run_bind, eW_agg, Result.andThen]
  simp [eW_size, loadCells, go_sem, h0, h1]
theorem eW_set (t b : Nat) (x y : Int) (u v : Value) (W : World) (h0 : W.cell? ⟨b, 0, none⟩ = some (.int .i64 x)) (h1 : W.cell? ⟨b, 1, none⟩ = some (.int .i64 y)) (t0 : W.cell? ⟨t, 0, none⟩ = some u) (t1 : W.cell? ⟨t, 1, none⟩ = some v)
    (f0 : W.frozen? ⟨t, 0, none⟩ = false) (f1 : W.frozen? ⟨t, 1, none⟩ = false) :
    (ReflectliteValue.set #[.agg #[.pointer (some ⟨6, 192, none⟩), .pointer (some ⟨t, 0, none⟩), .int .u64 409], .agg #[.pointer (some ⟨6, 192, none⟩), .pointer (some ⟨b, 0, none⟩), .int .u64 153]]).run Tryz.prog W
      = .ok (.tuple #[]) ((W.setCell ⟨t, 0, none⟩ (.int .i64 x)).setCell ⟨t, 1, none⟩ (.int .i64 y)) := by
  have hl := eW_load b x y W h0 h1
  rw [rls]
  simp only [Sem.run_bind, eW_partsA, eW_partsS, Result.andThen]
  rw [if_neg (by decide)]
  simp only [Sem.run_bind, hl, Result.andThen, eW_direct, if_true]
  unfold storeVar
  have e1 : (Value.agg #[Value.int IntKind.i64 x, Value.int IntKind.i64 y]).cells.size = 2 := rfl
  have e2 : (Value.agg #[Value.int IntKind.i64 x, Value.int IntKind.i64 y]).cells.toList = [Value.int IntKind.i64 x, Value.int IntKind.i64 y] := rfl
  rw [e1, e2]
  have s1 : (store ⟨t, 0, none⟩ (.int .i64 x)).run Tryz.prog W = .ok () (W.setCell ⟨t, 0, none⟩ (.int .i64 x)) := by
    rw [run_store Tryz.prog W ⟨t, 0, none⟩ _ _ (by rfl)]; simp [t0, f0]
  have s2 : (store ⟨t, 1, none⟩ (.int .i64 y)).run Tryz.prog (W.setCell ⟨t, 0, none⟩ (.int .i64 x)) = .ok () ((W.setCell ⟨t, 0, none⟩ (.int .i64 x)).setCell ⟨t, 1, none⟩ (.int .i64 y)) := by
    have c1 : (W.setCell ⟨t, 0, none⟩ (.int .i64 x)).cell? ⟨t, 1, none⟩ = some v := (World.cell?_setCell_other _ ⟨t, 0, none⟩ ⟨t, 1, none⟩ _ (by simp)).trans t1
    have g1 : (W.setCell ⟨t, 0, none⟩ (.int .i64 x)).frozen? ⟨t, 1, none⟩ = false := by simp [f1]
    rw [run_store Tryz.prog _ ⟨t, 1, none⟩ _ _ (by rfl)]; simp [c1, g1]
  simp only [Sem.run_bind, eW_size, Result.andThen, ne_eq, not_true, if_false, storeCells, Addr.add, Nat.zero_add, s1, s2]
  rw [if_pos trivial, if_neg (by decide)]
  simp only [s1, s2, Sem.run_pure]

set_option maxRecDepth 100000 in
set_option maxHeartbeats 4000000 in
theorem eW_hit (x y : Int) (t : Nat) (u v : Value) (w : World) (hg : w.cell? ⟨0, 0, none⟩ = some (.iface 108 (.agg #[.pointer (some ⟨6, 49, none⟩)]))) (ht : w.heap[t]? = some (.cells #[u, v] 192 (0, 0))) :
    Calls Tryz.prog 25 #[.iface 192 (.agg #[.int .i64 x, .int .i64 y]), .iface 193 (.pointer (some ⟨t, 0, none⟩))] w fun ev w' => ev = .returned (.bool true) ∧ ∃ w2, Up w w2 ∧ w' = (w2.setCell ⟨t, 0, none⟩ (.int .i64 x)).setCell ⟨t, 1, none⟩ (.int .i64 y) := by
  have h6 := @run_callFunc_extern Tryz.prog 32 _ (fun args => ReflectliteValue.unpack (args.getD 0 (.tuple #[]))) Tryz.func32 (by kernel_rfl) (by kernel_rfl) (by kernel_rfl) (by kernel_rfl)
  have h7 := @run_callFunc_extern Tryz.prog 33 _ (ReflectliteValue.methodAny (ReflectliteValue.valueError "reflectlite.Value.Type" 0) (fun t _ _ _ => ReflectliteType.toType t)) Tryz.func33 (by kernel_rfl) (by kernel_rfl) (by kernel_rfl) (by kernel_rfl)
  have h8 := @run_callFunc_extern Tryz.prog 34 _ (ReflectliteValue.method (ReflectliteValue.valueError "reflectlite.Value.IsNil" 0) ReflectliteValue.isNil) Tryz.func34 (by kernel_rfl) (by kernel_rfl) (by kernel_rfl) (by kernel_rfl)
  have h27 := @run_callFunc_extern Tryz.prog 215 _ (ReflectliteType.abiMethod fun t => do pure (.int .u8 (← Rtype.kind t))) Tryz.func215 (by kernel_rfl) (by kernel_rfl) (by kernel_rfl) (by kernel_rfl)
  have h37 := @run_callFunc_extern Tryz.prog 226 _ (ReflectliteType.method ReflectliteType.elem) Tryz.func226 (by kernel_rfl) (by kernel_rfl) (by kernel_rfl) (by kernel_rfl)
  have h38 := @run_callFunc_extern Tryz.prog 227 _ (ReflectliteType.relation "Implements" ReflectliteType.implements_) Tryz.func227 (by kernel_rfl) (by kernel_rfl) (by kernel_rfl) (by kernel_rfl)
  have h10 := @run_callFunc_extern Tryz.prog 57 _ ReflectliteType.typeOf Tryz.func57 (by kernel_rfl) (by kernel_rfl) (by kernel_rfl) (by kernel_rfl)
  have h35 := @run_callFunc_extern Tryz.prog 224 _ (ReflectliteType.relation "AssignableTo" ReflectliteType.assignableTo) Tryz.func224 (by kernel_rfl) (by kernel_rfl) (by kernel_rfl) (by kernel_rfl)
  have h11 := @run_callFunc_extern Tryz.prog 58 _ (ReflectliteValue.method (ReflectliteValue.valueError "reflectlite.Value.Elem" 0) ReflectliteValue.elem) Tryz.func58 (by kernel_rfl) (by kernel_rfl) (by kernel_rfl) (by kernel_rfl)
  have h12 := @run_callFunc_extern Tryz.prog 59 _ ReflectliteValue.set Tryz.func59 (by kernel_rfl) (by kernel_rfl) (by kernel_rfl) (by kernel_rfl)
  have tO := eW_typeOf
  have mA := methodAssignableTo
  have a25 := eW_assignable
  have v25 := eW_valueOfS
  have f6 := eW_valueOf
  have f7 := eW_type
  have mK := methodKind
  have mE := methodElem
  have mI := methodImplements
  have k27 := eW_kindP
  have k25 := eW_kindS
  have e27 := eW_elem
  have i25 := eW_implements
  have htl := lt_of_block ht
  have hgl := lt_of_cell hg
  obtain ⟨W1, hW1⟩ : ∃ W1, W1 = w.alloc (.cells #[.pointer (some ⟨t, 0, none⟩)] 193) := ⟨_, rfl⟩
  obtain ⟨W2, hW2⟩ : ∃ W2, W2 = W1.alloc (.cells #[.pointer (some ⟨6, 193, none⟩), .pointer (some ⟨w.heap.size, 0, none⟩), .int .u64 150] 75) := ⟨_, rfl⟩
  obtain ⟨W3, hW3⟩ : ∃ W3, W3 = W2.alloc (.cells #[.pointer (some ⟨6, 193, none⟩), .pointer (some ⟨w.heap.size, 0, none⟩), .int .u64 150] 75) := ⟨_, rfl⟩
  obtain ⟨W4, hW4⟩ : ∃ W4, W4 = W3.alloc (.cells #[.int .i64 x, .int .i64 y] 192) := ⟨_, rfl⟩
  have u1 : Up w W1 := by rw [hW1]; exact (Up.self w).alloc _
  have u12 : Up W1 W2 := by rw [hW2]; exact (Up.self _).alloc _
  have u23 : Up W2 W3 := by rw [hW3]; exact (Up.self _).alloc _
  have u34 : Up W3 W4 := by rw [hW4]; exact (Up.self _).alloc _
  have u2 := u1.trans u12
  have s1 : W1.heap.size = w.heap.size + 1 := by rw [hW1]; simp
  have s2 : W2.heap.size = w.heap.size + 2 := by rw [hW2]; simp [s1]
  have s3 : W3.heap.size = w.heap.size + 3 := by rw [hW3]; simp [s2]
  have p1 : W1.cell? ⟨w.heap.size, 0, none⟩ = some (.pointer (some ⟨t, 0, none⟩)) := by rw [hW1]; exact cell_of_one (heap_new rfl)
  have p2 : W2.cell? ⟨w.heap.size, 0, none⟩ = some (.pointer (some ⟨t, 0, none⟩)) := (u12.cells.1 _ 0 (by omega)).trans p1
  have p3 : W3.cell? ⟨w.heap.size, 0, none⟩ = some (.pointer (some ⟨t, 0, none⟩)) := (u23.cells.1 _ 0 (by omega)).trans p2
  have hg2 : W2.cell? ⟨0, 0, none⟩ = _ := (u2.cells.1 _ 0 hgl).trans hg
  have n8 := eW_isNil ⟨w.heap.size, 0, none⟩ ⟨t, 0, none⟩ W2 p2
  have el := eW_elemV ⟨w.heap.size, 0, none⟩ ⟨t, 0, none⟩ W3 p3
  have hu4 : Up w W4 := (u2.trans u23).trans u34
  have ht4 : W4.heap[t]? = some (.cells #[u, v] 192 (0, 0)) := (hu4.block t htl).trans ht
  have hb4 : W4.heap[W3.heap.size]? = some (.cells #[.int .i64 x, .int .i64 y] 192 (0, 0)) := by rw [hW4]; exact heap_new rfl
  have st := eW_set t W3.heap.size x y u v W4 (cell_of_block hb4 0) (cell_of_block hb4 1) (cell_of_block ht4 0) (cell_of_block ht4 1) (frozen_of_block ht4 0) (frozen_of_block ht4 1)
  rw [s3] at st
  rw [hW2, hW1] at n8 hg2
  rw [hW3, hW2, hW1] at el
  have HU4 := Lib.hid hu4
  rw [hW4, hW3, hW2, hW1] at st HU4
  clear hu4 u1 u12 u23 u34 u2 s1 s2 s3 p1 p2 p3 ht4 hb4 hW1 hW2 hW3 hW4
  go_enter Tryz.func25, Tryz.ntmps25
  go_wp2
  refine wp_loop_rounds 1 ?_
  rw [rounds_succ]
  go_wp2
  go_ret
  exact ⟨rfl, _, HU4.out, rfl⟩
end Go.Proofs.YtckfgkmfeklcmaaGreatDoor

/- Escapes: Get. -/
namespace Go.Proofs.YtckfgkmfeklcmaaGreatDoor
open Go.RowKit Go.Shelf
attribute [local go_sem] Oper.semAt_some

set_option maxRecDepth 100000 in
set_option maxHeartbeats 1600000 in
theorem etold_any (e p : Int) (w : World) (h : Env w) : Calls Tryz.prog 90 #[wrongE e p] w fun ev w' => ev = .returned (.tuple #[.int .i64 p, .int .i64 e]) ∧ Up w w' := by
  have HH := Lib.hid (eW_hit e p w.heap.size (.int .i64 0) (.int .i64 0) (w.alloc (.cells #[.int .i64 0, .int .i64 0] 192)) (h.up ((Up.self w).alloc _)).et (heap_new rfl))
  unfold wrongE
  clear h
  go_enter Tryz.func90, Tryz.ntmps90
  go_wp2_with fail
  refine HH.out.mono ?_
  rintro ev w1 ⟨rfl, w2, hu, hw1⟩
  have hb : w2.heap[w.heap.size]? = some (.cells #[.int .i64 0, .int .i64 0] 192 (0, 0)) := (hu.block _ (by simp)).trans (heap_new rfl)
  have hb1 : w1.heap[w.heap.size]? = some (.cells #[.int .i64 e, .int .i64 p] 192 (0, 0)) := by
    rw [hw1]; exact heap_setCell_at (i := 1) (heap_setCell_at (i := 0) hb)
  have hu1 : Up w w1 := by
    rw [hw1]; exact Below.setCell (Below.setCell (Up.trans ((Up.self w).alloc _) hu) (p := ⟨w.heap.size, 0, none⟩) (Nat.le_refl _) _) (p := ⟨w.heap.size, 1, none⟩) (Nat.le_refl _) _
  have c0 := cell_of_block hb1 0
  have c1 := cell_of_block hb1 1
  have HU := Lib.hid hu1
  clear hb hb1 hu1 hw1 hu
  go_wp2_with fail
  go_quiet (fail)
  go_wp2_with fail
  go_ret2
  exact ⟨rfl, below_drewN HU.out _⟩
def getV (s : List UInt8) : Value := match Pl.get s with | .ok t => .tuple #[.string (mk t), .int .i64 0, .int .i64 0] | .error (p, e) => .tuple #[.string (mk []), .int .i64 (p : Int), .int .i64 e]
theorem getV_ok {s t : List UInt8} (h : Pl.get s = .ok t) : getV s = .tuple #[.string (mk t), .int .i64 0, .int .i64 0] := by unfold getV; rw [h]
theorem getV_err {s : List UInt8} {p : Nat} {e : Int} (h : Pl.get s = .error (p, e)) : getV s = .tuple #[.string (mk []), .int .i64 (p : Int), .int .i64 e] := by unfold getV; rw [h]
theorem Tryz.enters_parts (args : Array Value) (w : World) : (callFunc 110 args).run Tryz.prog w = .ok (.enter 110 args) w := enters_of Tryz.func110 (by kernel_rfl) rfl args w
set_option maxHeartbeats 400000 in
theorem parts_make (x : Nat) (w : World) : Calls Tryz.prog 89 #[.pointer (some ⟨x, 0, none⟩)] w fun e w' =>
    e = .returned (.func (.func 110) #[] #[.pointer (some ⟨w.heap.size, 0, none⟩)]) ∧ w' = w.alloc (.cells #[.pointer (some ⟨x, 0, none⟩)] 159) := by
  have hmf := @run_makeFunc Tryz.prog
  go_enter Tryz.func89, Tryz.ntmps89
  go_wp2
  go_ret
  exact ⟨rfl, rfl⟩
theorem Bld.turns {M b T n0 : Nat} {Xs : Nat → Prop} {r : Array Value} {l : List UInt8} {w w' : World} (h : Bld M b T r l w) (u : Turns n0 Xs w w') (hx : ∀ k, M ≤ k → ¬ Xs k) : Bld M b T r l w' := by
  obtain ⟨p, hp, hB, v, h1, h2, h3⟩ := h
  exact ⟨p, hp, hB, v, u.cells h1 (hx b hB), u.row h2 hx, h3⟩

set_option maxRecDepth 100000 in
set_option maxHeartbeats 3200000 in
theorem get_any (s : List UInt8) (w : World) (h : Env w) (hs : s.length ≤ 1000000000) :
    Calls Tryz.prog 66 #[.string (mk s)] w fun e w' => e = .returned (getV s) ∧ Up w w' := by
  refine (callsIn_wide (n := 3)).1 ?_
  have H := Lib.hid h
  clear h
  have hsz := mk_size s
  refine callsIn_of_wp_marks Tryz.func66 rfl trivial ?_ rfl
  simp only [Tryz.ntmps66, List.size_toArray, List.length_cons, List.length_nil, Nat.reduceAdd, Nat.reduceSub, Array.replicate_succ, Array.replicate_zero, List.push_toArray, List.append_toArray, List.nil_append, List.cons_append]
  gi_wp2_with fail
  refine ⟨trivial, (callsIn_wide.2 (parts_make _ _)).mono ?_⟩
  rintro e w1 ⟨rfl, hw1⟩
  have hsz1 : w1.heap.size = w.heap.size + 4 := by rw [hw1]; simp
  have hx : RdE w1 w.heap.size s (s.length : Int) .nilIface := by
    unfold RdE
    rw [hw1, Below.heap_alloc _ _ _ (by simp <;> omega), Below.heap_alloc _ _ _ (by simp <;> omega), Below.heap_alloc _ _ _ (by simp)]; exact heap_new rfl
  have hb : w1.heap[w.heap.size + 1]? = some (.cells #[.pointer none, .slice none 0 0, .int .i64 0] 95 (0, 0)) := by
    rw [hw1, Below.heap_alloc _ _ _ (by simp <;> omega), Below.heap_alloc _ _ _ (by simp)]; exact heap_new (by simp)
  have hbx : w1.heap[w.heap.size + 2]? = some (.cells #[.pointer (some ⟨w.heap.size + 1, 0, none⟩)] 86 (0, 0)) := by
    rw [hw1, Below.heap_alloc _ _ _ (by simp)]; exact heap_new (by simp)
  have hp : w1.heap[w.heap.size + 3]? = some (.cells #[.pointer (some ⟨w.heap.size, 0, none⟩)] 159 (0, 0)) := by
    rw [hw1]; exact heap_new (by simp)
  have hu : Up w w1 := by rw [hw1]; exact ((((Up.self w).alloc _).alloc _).alloc _).alloc _
  rw [show (((w.alloc (Obj.cells #[Value.string (mk s), Value.int IntKind.i64 ↑s.length, Value.nilIface] 163)).alloc (Obj.cells #[Value.pointer none, Value.slice none 0 0, Value.int IntKind.i64 0] 95)).alloc (Obj.cells #[Value.pointer (some { block := w.heap.size + 1, off := 0 })] 86)).heap.size = w.heap.size + 3 from by simp]
  have hwr : Wr (w.heap.size + 1) (w.heap.size + 1) [] w1 := ⟨_, .inl rfl, Nat.le_refl _, _, hb, World.ownsRow_nil _ _ _ _, by simp [Value.ownBlock]⟩
  have HX := Lib.hid hx
  have HBX := Lib.hid hbx
  have HP := Lib.hid hp
  have HU := Lib.hid hu
  have HSZ := Lib.hid hsz1
  have HWR := Lib.hid hwr
  clear hx hb hbx hp hu hsz1 hwr hw1 hsz
  gi_wp2_with fail
  refine wpIn_rangeC (gf := 110) (lb := #[.pointer (some ⟨w.heap.size + 3, 0, none⟩)]) rfl Tryz.enters_parts (parts_seq (w.heap.size + 3) w.heap.size w.heap.size s w1 (by omega) (Nat.le_refl _) HP.out HX.out hs ?hEnv) (by have := HSZ.out; intro k hk; omega)
    ?hS (fun _ _ _ _ _ => trivial) (fun _ => rfl)
    (fun pre W => Wr (w.heap.size + 1) (w.heap.size + 1) pre.flatten W ∧ W.heap[w.heap.size + 2]? = some (.cells #[.pointer (some ⟨w.heap.size + 1, 0, none⟩)] 86 (0, 0)) ∧ W.heap[w.heap.size + 3]? = some (.cells #[.pointer (some ⟨w.heap.size, 0, none⟩)] 159 (0, 0)) ∧ Up w W)
    (fun _ _ _ => False) ?hI (fun _ _ _ _ h _ => h) ⟨HWR.out, HBX.out, HP.out, HU.out⟩
    (fun o => { tmps := #[Value.string (mk s), undef, Value.string { data := #[] }, Value.int IntKind.i64 0, Value.int IntKind.i64 0,
            Value.pointer (some { block := w.heap.size, off := 0 }),
            Value.pointer (some { block := w.heap.size + 1 + 1, off := 0 }), Value.string (mk o), undef, undef, Value.string (mk s),
            Value.agg #[Value.string (mk s)], Value.string (mk s), Value.int IntKind.i64 ↑s.length,
            Value.agg #[Value.string (mk s), Value.int IntKind.i64 ↑s.length, Value.nilIface],
            Value.pointer (some { block := w.heap.size, off := 0 }),
            Value.agg #[Value.pointer none, Value.slice none 0 0, Value.int IntKind.i64 0],
            Value.pointer (some { block := w.heap.size + 1, off := 0 }),
            Value.pointer (some { block := w.heap.size, off := 0 }), Value.func (Fn.func 110) #[] #[Value.pointer (some ⟨w.heap.size + 3, 0, none⟩)], Value.string (mk o), undef, undef, undef, undef, undef, undef,
            undef, undef, undef, undef, undef, undef, undef, undef, undef, undef, undef, undef, undef, undef, undef,
            undef, undef], defers := [] }) (by have := HSZ.out; intro k hk; omega) ?assign ?body ?done ?stop
  case hEnv =>
    intro W h1 h2
    exact H.out.of_blocks (Nat.le_trans HU.out.size h1) (fun k hk => (h2 k hk).trans (HU.out.block k hk))
  case hS =>
    rintro xs A B h1 ht
    rcases h1 with ⟨e1, e2⟩ | ⟨p, e, rest, e1, e2⟩
    · exact .inl ⟨e1, ht.cells e2 (fun e => e)⟩
    · exact .inr ⟨p, e, rest, e1, ht.cells e2 (fun e => e)⟩
  case hI =>
    rintro pre A B ⟨h1, h2, h3, h4⟩ ht
    exact ⟨Bld.turns h1 ht (by intro k hk; omega), ht.cells h2 (by omega), ht.cells h3 (by omega), ht.below h4 (by have := HSZ.out; omega) (Nat.le_refl _) (by intro k hk; omega)⟩
  case assign =>
    intro l x W K hK
    gi_wp2
    exact hK
  case body =>
    rintro l pre o W ⟨hwr, hbx, hp, hup⟩ hlen hsz
    have hlt : w.heap.size + 4 ≤ W.heap.size := by have := HSZ.out; omega
    have cb := cell_of_one hbx
    have HWR1 := Lib.hid hwr
    have HBX1 := Lib.hid hbx
    have HP1 := Lib.hid hp
    have HUP1 := Lib.hid hup
    clear hwr hbx hp hup hsz
    gi_wp2_with fail
    refine ⟨trivial, CallsIn.inRound l (callsIn_wide.2 ((write_one (w.heap.size + 1) (w.heap.size + 1) W.heap.size pre.flatten o _ (by omega) (by simp; omega) (Bld.up HWR1.out ((Up.self _).alloc _)) (by omega) (heap_new rfl)).mono ?_))⟩
    rintro e w5 ⟨rfl, hwr5, hbel5, hoth5, hs5⟩
    obtain ⟨cb5, hcb⟩ := Bld.cells (Bld.up HWR1.out ((Up.self W).alloc (.cells #[.string (mk o)] 9)))
    have hal : ∀ k ob, W.heap[k]? = some ob → (W.alloc (.cells #[.string (mk o)] 9)).heap[k]? = some ob := fun k ob h => (Below.heap_alloc _ _ _ (Array.getElem?_eq_some_iff.1 h).1).trans h
    have hbx5 := others_cells (hal _ _ HBX1.out) hoth5 hcb (by decide) (by decide)
    have hp5 := others_cells (hal _ _ HP1.out) hoth5 hcb (by decide) (by decide)
    have hle5 : W.heap.size ≤ w5.heap.size := Nat.le_trans (by simp) hs5
    have hlow : ∀ k, k < w.heap.size + 1 → w5.heap[k]? = W.heap[k]? := fun k hk => (hbel5.block k hk).trans (Below.heap_alloc _ _ _ (by omega))
    have hkeep : KeepsOthers W w5 := ⟨hle5, fun k ob h1 h2 => hoth5 k ob (hal k ob h1) (fun e => by cases e; rw [hal _ _ h1] at hcb; cases hcb; cases h2) (by rintro c fz rfl; cases h2)⟩
    have hup5 : Up w w5 := Below.trans (HUP1.out.alloc _) (hbel5.mono (by omega))
    have hkr : KeepR (fun k => k = w.heap.size + 3 ∨ k = w.heap.size ∨ k < w.heap.size) W w5 := ⟨hle5, fun k hk => by
      rcases hk with rfl | rfl | hk
      · rw [hp5, HP1.out]
      · exact hlow _ (by omega)
      · exact hlow _ (by omega)⟩
    have HK := Lib.hid hkeep
    have HKR := Lib.hid hkr
    have HW5 := Lib.hid hwr5
    have HBX5 := Lib.hid hbx5
    have HP5 := Lib.hid hp5
    have HUP5 := Lib.hid hup5
    clear hkeep hkr hwr5 hbx5 hp5 hup5 hal hcb hbel5 hoth5 hlow
    gi_wp2_with fail
    refine ⟨HK.out, HKR.out, ?_, HBX5.out, HP5.out, HUP5.out⟩
    rw [List.flatten_append, show [o].flatten = o from by simp]
    exact HW5.out
  case done =>
    rintro D xs W hS ⟨hwr, hbx, hp, hup⟩ hK hD
    have hlt : w.heap.size + 4 ≤ D := by have := HSZ.out; omega
    have HWR1 := Lib.hid hwr
    have HBX1 := Lib.hid hbx
    have HUP1 := Lib.hid hup
    have HK := Lib.hid hK
    have cb := cell_of_one hbx
    clear hwr hbx hp hup hK
    rcases hS with ⟨hg, hr⟩ | ⟨p, e, rest, hg, hr⟩
    · have HG := Lib.hid hg
      have c2 := hr.cell2
      clear hg hr
      gi_wp2_with fail
      refine ⟨trivial, callsIn_wide.2 ((string_any (w.heap.size + 1) (w.heap.size + 1) 95 _ _ W (by have := HUP1.out.size; have := lt_of_block HBX1.out; omega) HWR1.out).mono ?_)⟩
      rintro e w4 ⟨rfl, hb4, ho4⟩
      obtain ⟨cb4, hcb⟩ := Bld.cells HWR1.out
      have hD4 : w4.heap[D]? = some (.deferred (some [])) := ho4 D _ HK.out (fun e => by cases e; rw [HK.out] at hcb; cases hcb) (by simp)
      have HD4 := Lib.hid hD4
      have HU4 := Lib.hid (Below.trans HUP1.out (hb4.mono (by omega)))
      clear hb4 ho4 hD4 hcb
      gi_wp2_with fail
      refine ⟨by simp, .inl ⟨_, _, rfl, run_takeDeferred (w := w4) HD4.out, ?_⟩⟩
      refine ⟨_, results_tmp3 rfl _ _ _, by rw [getV_ok HG.out]; rfl, ?_⟩
      exact Below.trans HU4.out (belowK_b (w := w1) (n₀ := w.heap.size) (by have := HSZ.out; omega) w4 D _ _ hD HD4.out rfl rfl)
    · have HG := Lib.hid hg
      have c2 := hr.cell2
      unfold wrongE at c2
      clear hg hr
      gi_wp2_with fail
      refine ⟨trivial, callsIn_wide.2 ((etold_any e (p : Int) W (H.out.up HUP1.out)).mono ?_)⟩
      rintro ev w4 ⟨rfl, hu4⟩
      have hD4 : w4.heap[D]? = some (.deferred (some [])) := (hu4.block D (Array.getElem?_eq_some_iff.1 HK.out).1).trans HK.out
      have HD4 := Lib.hid hD4
      have HU4 := Lib.hid (Up.trans HUP1.out hu4)
      clear hu4 hD4
      gi_wp2_with fail
      refine ⟨by simp, .inl ⟨_, _, rfl, run_takeDeferred (w := w4) HD4.out, ?_⟩⟩
      refine ⟨_, results_tmp3 rfl _ _ _, by rw [getV_err HG.out]; rfl, ?_⟩
      exact Below.trans HU4.out (belowK_b (w := w1) (n₀ := w.heap.size) (by have := HSZ.out; omega) w4 D _ _ hD HD4.out rfl rfl)
  case stop =>
    rintro D c pre W _ h _ _
    exact h.elim
end Go.Proofs.YtckfgkmfeklcmaaGreatDoor
