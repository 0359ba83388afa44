/- The texts IsErr, NumE, NumF, NumG, Bld, NumH of this claim in one: the walks and plain laws that the statement's proof rests on. -/
import Derived.Test.YtckfgkmfeklcmaaGreatDoorGB
import Derived.LaidEql
import Derived.Stop.Asserts
import Derived.RowKitTokens
import Derived.Test.YtckfgkmfeklcmaaGreatDoorGE
import Derived.Stop.RegionWithIn
import Derived.Lib.AppendStr
import Derived.Lib.Builder
import Derived.Lib.UnsafeStr
import Derived.Test.YtckfgkmfeklcmaaGreatDoorGD
set_option linter.unusedVariables false
set_option linter.unusedSimpArgs false
/- errors.Is of two errors of errors.New's make. -/
namespace Go.Proofs.YtckfgkmfeklcmaaGreatDoor
open Go.RowKit Go.Extern.Stop Go.Stop Go.Extern

theorem Tryz.isTypeOf (v : Value) (w : World) : (Extern.ReflectliteType.typeOf #[.iface 279 v]).run Tryz.prog w = .ok (.iface 108 (.agg #[.pointer (some ⟨6, 279, none⟩)])) w := by kernel_rfl
theorem Tryz.isComparable (w : World) : ((Extern.ReflectliteType.method fun t => do Extern.Rtype.noPackHeld "Comparable" t; (fun a => Value.bool a.comparable) <$> typeInfo t) #[.agg #[.pointer (some ⟨6, 279, none⟩)]]).run Tryz.prog w = .ok (.bool true) w := by kernel_rfl
theorem Tryz.isMethodComparable (v : Value) (w : World) : (Go.method 408 108 v "Comparable").run Tryz.prog w = .ok (225, v) w := by kernel_rfl
theorem Tryz.isComp : (Tryz.prog.info? 279).map (·.comparable) = some true := by kernel_rfl
theorem Tryz.isSize : (Tryz.prog.info? 297).map (·.size) = some 1 := by kernel_rfl
theorem Tryz.noIsE (v : Value) (xT : TypeId) (w : World) : (Instr.typeAssert (.iface 279 v) xT 276 true).run Tryz.prog w = .ok (.tuple #[.nilIface, .bool false]) w := run_typeAssert_lacksB Tryz.underlying276 (by kernel_rfl) (by kernel_rfl) v xT w
theorem Tryz.noUnwrapE (v : Value) (xT : TypeId) (w : World) : (Instr.typeAssert (.iface 279 v) xT 116 true).run Tryz.prog w = .ok (.tuple #[.nilIface, .bool false]) w := run_typeAssert_lacksB Tryz.underlying116 (by kernel_rfl) (by kernel_rfl) v xT w
theorem Tryz.noUnwrapsE (v : Value) (xT : TypeId) (w : World) : (Instr.typeAssert (.iface 279 v) xT 117 true).run Tryz.prog w = .ok (.tuple #[.nilIface, .bool false]) w := run_typeAssert_lacksB Tryz.underlying117 (by kernel_rfl) (by kernel_rfl) v xT w

set_option maxRecDepth 100000 in
set_option maxHeartbeats 800000 in
theorem is_same (a : Addr) (w : World) :
    Calls Tryz.prog 198 #[.iface 279 (.pointer (some a)), .iface 279 (.pointer (some a))] w fun e w' => e = .returned (.bool true) ∧ w' = w := by
  obtain ⟨i, hi, hcmp⟩ := Option.map_eq_some_iff.1 Tryz.isComp
  obtain ⟨j, hj, hjs⟩ := Option.map_eq_some_iff.1 Tryz.isSize
  have h8 := @run_callFunc_extern Tryz.prog 57 _ Extern.ReflectliteType.typeOf Tryz.func57 (by kernel_rfl) (by kernel_rfl) (by kernel_rfl) (by kernel_rfl)
  have h32 := @run_callFunc_extern Tryz.prog 225 _ (Extern.ReflectliteType.method fun t => do Extern.Rtype.noPackHeld "Comparable" t; pure (.bool (← typeInfo t).comparable)) Tryz.func225 (by kernel_rfl) (by kernel_rfl) (by kernel_rfl) (by kernel_rfl)
  have tT := Tryz.isTypeOf
  have cT := Tryz.isComparable
  have mR := Tryz.isMethodComparable
  have heq := run_eql_iface_ptr_same (P := Tryz.prog) w a Tryz.underlying49 Tryz.underlying279 hi hcmp hj
  go_enter Tryz.func198, Tryz.ntmps198
  go_wp2
  refine wp_loop_rounds 1 ?_
  rw [rounds_succ]
  go_wp2
  go_ret
  exact ⟨rfl, rfl⟩

theorem is_nil (b : Addr) (w : World) :
    Calls Tryz.prog 198 #[.nilIface, .iface 279 (.pointer (some b))] w fun e w' => e = .returned (.bool false) ∧ w' = w := by
  have hn := run_eql_iface_nil_left (P := Tryz.prog) w 279 (.pointer (some b)) Tryz.underlying49
  go_enter Tryz.func198, Tryz.ntmps198
  go_wp2
  go_ret
  exact ⟨rfl, rfl⟩

set_option maxRecDepth 100000 in
set_option maxHeartbeats 800000 in
theorem is_other (a b : Addr) (ca cb : Array Value) (ta tb : TypeId) (w : World) (hne : a ≠ b) (ha : w.heap[a.block]? = some (.cells ca ta (0, 0))) (hb : w.heap[b.block]? = some (.cells cb tb (0, 0))) :
    Calls Tryz.prog 198 #[.iface 279 (.pointer (some a)), .iface 279 (.pointer (some b))] w fun e w' => e = .returned (.bool false) ∧ w' = w := by
  obtain ⟨i, hi, hcmp⟩ := Option.map_eq_some_iff.1 Tryz.isComp
  obtain ⟨j, hj, hjs⟩ := Option.map_eq_some_iff.1 Tryz.isSize
  have h8 := @run_callFunc_extern Tryz.prog 57 _ Extern.ReflectliteType.typeOf Tryz.func57 (by kernel_rfl) (by kernel_rfl) (by kernel_rfl) (by kernel_rfl)
  have h32 := @run_callFunc_extern Tryz.prog 225 _ (Extern.ReflectliteType.method fun t => do Extern.Rtype.noPackHeld "Comparable" t; pure (.bool (← typeInfo t).comparable)) Tryz.func225 (by kernel_rfl) (by kernel_rfl) (by kernel_rfl) (by kernel_rfl)
  have tT := Tryz.isTypeOf
  have cT := Tryz.isComparable
  have mR := Tryz.isMethodComparable
  have nE := Tryz.noIsE
  have uE := Tryz.noUnwrapE
  have vE := Tryz.noUnwrapsE
  have heq := run_eql_iface_ptr_other (P := Tryz.prog) w Tryz.underlying49 Tryz.underlying279 hi hcmp hj (by rw [hjs]; decide) hne ha hb
  go_enter Tryz.func198, Tryz.ntmps198
  go_wp2
  refine wp_loop_rounds 1 ?_
  rw [rounds_succ]
  go_wp2
  go_ret
  exact ⟨rfl, rfl⟩
end Go.Proofs.YtckfgkmfeklcmaaGreatDoor

/- Numbers as digits: Get. -/
namespace Go.Proofs.YtckfgkmfeklcmaaGreatDoor
open Go.RowKit Go.Shelf

abbrev errT (a : Addr) : Value := .iface 279 (.pointer (some a))
/-- num's two errors lie where they were laid -/
structure ErrsAt (w : World) (a b : Addr) : Prop where
  ea : w.cell? ⟨2, 0, none⟩ = some (errT a)
  eb : w.cell? ⟨5, 0, none⟩ = some (errT b)
  ha : ∃ ca ta, w.heap[a.block]? = some (.cells ca ta (0, 0))
  hb : ∃ cb tb, w.heap[b.block]? = some (.cells cb tb (0, 0))
  ne : a ≠ b
theorem ErrsAt.up {w w' : World} {a b : Addr} (h : ErrsAt w a b) (hu : Up w w') : ErrsAt w' a b := by
  obtain ⟨ca, ta, ha⟩ := h.ha
  obtain ⟨cb, tb, hb⟩ := h.hb
  exact ⟨(hu.cells.1 _ 0 (lt_of_cell h.ea)).trans h.ea, (hu.cells.1 _ 0 (lt_of_cell h.eb)).trans h.eb, ⟨ca, ta, (hu.block a.block (lt_of_block ha)).trans ha⟩, ⟨cb, tb, (hu.block b.block (lt_of_block hb)).trans hb⟩, h.ne⟩

set_option maxRecDepth 100000 in
set_option maxHeartbeats 800000 in
theorem told_nil (w : World) (a b : Addr) (h : ErrsAt w a b) :
    Calls Tryz.prog 187 #[.nilIface] w fun e w' => e = .returned (.int .i64 0) ∧ w' = w := by
  have e1 := h.ea
  have e2 := h.eb
  have H := Lib.hid h
  clear h
  go_enter Tryz.func187, Tryz.ntmps187
  go_wp2_with fail
  refine (is_nil _ _).mono ?_
  rintro e w1 ⟨rfl, rfl⟩
  go_wp2_with fail
  refine (is_nil _ _).mono ?_
  rintro e w1 ⟨rfl, rfl⟩
  go_wp2_with fail
  go_ret
  exact ⟨rfl, rfl⟩
set_option maxRecDepth 100000 in
set_option maxHeartbeats 800000 in
theorem told_num (w : World) (a b : Addr) (h : ErrsAt w a b) :
    Calls Tryz.prog 187 #[errT b] w fun e w' => e = .returned (.int .i64 30) ∧ w' = w := by
  have e1 := h.ea
  have e2 := h.eb
  have H := Lib.hid h
  obtain ⟨ca, ta, ha⟩ := h.ha
  obtain ⟨cb, tb, hb⟩ := h.hb
  have HA := Lib.hid ha
  have HB := Lib.hid hb
  clear h ha hb
  go_enter Tryz.func187, Tryz.ntmps187
  go_wp2_with fail
  refine (is_other _ _ _ _ _ _ _ (fun h => H.out.ne h.symm) HB.out HA.out).mono ?_
  rintro e w1 ⟨rfl, rfl⟩
  go_wp2_with fail
  refine (is_same _ _).mono ?_
  rintro e w1 ⟨rfl, rfl⟩
  go_wp2_with fail
  go_ret
  exact ⟨rfl, rfl⟩

def numOut : Option Nat → Value
  | some v => .tuple #[.int .u64 (v : Int), .int .i64 0]
  | none => .tuple #[.int .u64 0, .int .i64 30]

set_option maxRecDepth 100000 in
set_option maxHeartbeats 800000 in
theorem numGet_all (n : Nat) (l : List UInt8) (w : World) (a b : Addr) (h : ErrsAt w a b) (hn : n = 8 ∨ n = 10 ∨ n = 16) :
    Calls Tryz.prog 173 #[.int .i64 (n : Int), .string (mk l)] w fun e w' => e = .returned (numOut (Pl.numGet n l)) ∧ Up w w' := by
  have H := Lib.hid h
  clear h
  go_enter Tryz.func173, Tryz.ntmps173
  go_wp2_with fail
  refine (numGet_any n l _ _ H.out.eb ⟨_, _, rfl⟩ hn).mono ?_
  rintro e w1 ⟨rfl, hu1⟩
  have HU := Lib.hid hu1
  have H1 := Lib.hid (H.out.up hu1)
  clear hu1
  cases hg : Pl.numGet n l with
  | none =>
    have hr : numRes (errT b) none = .tuple #[.int .u64 0, errT b] := rfl
    rw [hr]
    have HG := Lib.hid hg
    clear hr hg
    go_wp2_with fail
    refine (told_num _ _ _ H1.out).mono ?_
    rintro e w2 ⟨rfl, rfl⟩
    go_wp2_with fail
    go_ret2
    exact ⟨by rw [HG.out]; rfl, HU.out⟩
  | some v =>
    have hr : numRes (errT b) (some v) = .tuple #[.int .u64 (v : Int), .nilIface] := rfl
    rw [hr]
    have HG := Lib.hid hg
    clear hr hg
    go_wp2_with fail
    refine (told_nil _ _ _ H1.out).mono ?_
    rintro e w2 ⟨rfl, rfl⟩
    go_wp2_with fail
    go_ret2
    exact ⟨by rw [HG.out]; rfl, HU.out⟩
end Go.Proofs.YtckfgkmfeklcmaaGreatDoor

/- Numbers as digits: the digits gone through, the last one first. -/
namespace Pl
def rdigF (b : Nat) : Nat → Nat → List Nat
  | 0, _ => []
  | k + 1, x => x % b :: (if x / b = 0 then [] else rdigF b k (x / b))
/-- a number's digits, the last one first -/
def rdig (b x : Nat) : List Nat := rdigF b (x + 1) x
theorem rdigF_fuel (b : Nat) (hb : 2 ≤ b) : ∀ k k' x, x < k → x < k' → rdigF b k x = rdigF b k' x := by
  intro k
  induction k with
  | zero => intro k' x h; omega
  | succ k ih =>
    intro k' x h h'
    cases k' with
    | zero => omega
    | succ k' =>
      simp only [rdigF]
      by_cases hx : x / b = 0
      · simp [hx]
      · have h1 : x / b < x := Nat.div_lt_self (Nat.pos_of_ne_zero (fun e => hx (by rw [e]; simp))) hb
        rw [ih k' (x / b) (by omega) (by omega)]
theorem rdig_step (b x : Nat) (hb : 2 ≤ b) : rdig b x = x % b :: (if x / b = 0 then [] else rdig b (x / b)) := by
  unfold rdig
  rw [rdigF]
  by_cases hx : x / b = 0
  · simp [hx]
  · have h1 : x / b < x := Nat.div_lt_self (Nat.pos_of_ne_zero (fun e => hx (by rw [e]; simp))) hb
    rw [rdigF_fuel b hb x (x / b + 1) (x / b) h1 (by omega)]
def digByte (d : Nat) : UInt8 := if d < 10 then (48 + d).toUInt8 else (87 + d).toUInt8
/-- a number's text -/
def numPut (b x : Nat) : List UInt8 := ((rdig b x).map digByte).reverse
end Pl
namespace Go.Proofs.YtckfgkmfeklcmaaGreatDoor
open Go.RowKit Go.Shelf
attribute [local go_sem] Oper.semAt_some

theorem yield_both {e : Ending} {A B : Prop} (h : (e = .returned (.bool true) ∧ A) ∨ (e = .returned (.bool false) ∧ B)) : ∃ b : Bool, e = .returned (.bool b) ∧ (if b then A else B) := by
  rcases h with ⟨rfl, h⟩ | ⟨rfl, h⟩
  · exact ⟨true, rfl, h⟩
  · exact ⟨false, rfl, h⟩
def Fits8 (k z y : Nat) : Prop := 8 ^ k * z ≤ y
def RevInv (n p x y : Nat) (J : List Nat → World → Prop) (wr : World) : Prop := ∃ (pre : List Nat) (z : Nat), wr.heap[p]? = some (.cells #[.int .u64 (n : Int), .string (mk (digitsL.take n))] 197 (0, 0)) ∧ wr.heap[x]? = some (.cells #[.int .u64 (z : Int)] 173 (0, 0)) ∧
      Pl.rdig n y = pre ++ Pl.rdig n z ∧ Fits8 pre.length z y ∧ (pre = [] ∨ 1 ≤ z) ∧ J pre wr
def leftN (W : World) (x : Nat) : Nat := match W.cell? ⟨x, 0, none⟩ with | some (.int _ n) => n.toNat | _ => 0

set_option maxRecDepth 100000 in
set_option maxHeartbeats 1600000 in
theorem rev_seq (n p x : Nat) (y : Nat) (w : World) (hn : n = 8 ∨ n = 10 ∨ n = 16) (hpx : p ≠ x) (hp : w.heap[p]? = some (.cells #[.int .u64 (n : Int), .string (mk (digitsL.take n))] 197 (0, 0))) (hx : w.heap[x]? = some (.cells #[.int .u64 (y : Int)] 173 (0, 0))) (hy : (y : Int) < 18446744073709551616) :
    SeqC (α := Nat) Tryz.prog 148 #[.pointer (some ⟨p, 0, none⟩), .pointer (some ⟨x, 0, none⟩)] (fun d => #[.int .u8 ((Pl.digByte d).toNat : Int)]) (fun k => k = x) (fun k => k = p ∨ k = x) (fun pre d => pre.length < 23 ∧ d < n)
      (fun xs _ => xs = Pl.rdig n y) (fun _ _ => True) w := by
  intro m l J Jx W hJ hJx hY h0 hK
  have hp1 := (hK.same p (.inl rfl)).trans hp
  have hx1 := (hK.same x (.inr rfl)).trans hx
  have HJ := Lib.hid hJ
  have HJX := Lib.hid hJx
  have HY := Lib.hid hY
  have HYB := Lib.hid hy
  have HN := Lib.hid hn
  have HPX := Lib.hid hpx
  clear hpx hp hx hK hJ hJx hY hy hn
  refine callsIn_of_wp Tryz.func148 rfl trivial ?_ rfl
  simp only [Tryz.ntmps148, List.size_toArray, List.length_cons, List.length_nil, Nat.reduceAdd, Nat.reduceSub, Array.replicate_succ, Array.replicate_zero, List.push_toArray, List.append_toArray, List.nil_append, List.cons_append]
  refine wpIn_scope_straight ?_
  gi_wp2_with (apply wpIn_label)
  gi_loopw [] (fun wr => RevInv n p x y J wr) (fun wr => leftN wr x)
  case atStart => exact ⟨[], y, hp1, hx1, rfl, by simp [Fits8], .inl rfl, h0⟩
  case round =>
    obtain ⟨pre, z, hp2, hx2, hr, hlen, hz, hj⟩ := hrel
    have HR := Lib.hid hr
    have HP := Lib.hid hp2
    have HX := Lib.hid hx2
    have HJ1 := Lib.hid hj
    have HZ := Lib.hid hz
    have HL := Lib.hid hlen
    clear hr hp2 hx2 hj hp1 hx1 h0 hz hlen
    have c0 := cell_of_block HP.out 0
    have c1 := cell_of_block HP.out 1
    have cx := cell_of_one HX.out
    have fx := free_of_one HX.out
    have hzb : (z : Int) < 18446744073709551616 := by
      have h1 : 8 ^ pre.length * z ≤ y := HL.out
      have h2 := HYB.out
      have h3 : z ≤ 8 ^ pre.length * z := Nat.le_mul_of_pos_left z (Nat.pow_pos (by omega))
      omega
    have hsz : (mk (digitsL.take n)).size = n := by
      rw [mk_size]
      rcases HN.out with rfl | rfl | rfl <;> rfl
    obtain ⟨d, hd⟩ : ∃ d, d = z % n := ⟨_, rfl⟩
    have hdn : d < n := by
      rw [hd]; exact Nat.mod_lt _ (by have := HN.out; omega)
    have HD := Lib.hid hd
    have hn0 : (n : Int) ≠ 0 := by have := HN.out; omega
    have hrem : (z : Int).tmod (n : Int) = (d : Int) := by
      rw [hd, Int.tmod_eq_emod_of_nonneg (by omega)]; rfl
    have hwd : IntKind.u64.wrap (d : Int) = (d : Int) := u64_in _ (by omega) (by have := HN.out; omega)
    have HZB := Lib.hid hzb
    clear hd hzb
    have hnn : ¬ n = 0 := by have := HN.out; omega
    have hix : ∀ h, (mk (digitsL.take n))[d]'h = Pl.digByte d := by
      intro h
      rw [mk_at]
      have h16 : d < 16 := by have := HN.out; omega
      rcases HN.out with rfl | rfl | rfl
      · have : ∀ d : Fin 8, (digitsL.take 8).getD d.1 0 = Pl.digByte d.1 := by decide +kernel
        exact this ⟨d, hdn⟩
      · have : ∀ d : Fin 10, (digitsL.take 10).getD d.1 0 = Pl.digByte d.1 := by decide +kernel
        exact this ⟨d, hdn⟩
      · have : ∀ d : Fin 16, (digitsL.take 16).getD d.1 0 = Pl.digByte d.1 := by decide +kernel
        exact this ⟨d, hdn⟩
    have hlen23 : pre.length < 23 := by
      have h1 : 8 ^ pre.length * z ≤ y := HL.out
      have h2 := HYB.out
      rcases HZ.out with rfl | h3
      · simp
      · apply Decidable.byContradiction
        intro h4
        have h5 : 8 ^ 23 ≤ 8 ^ pre.length := Nat.pow_le_pow_right (by omega) (by omega)
        have h6 : 8 ^ pre.length ≤ 8 ^ pre.length * z := Nat.le_mul_of_pos_right _ (by omega)
        have h7 : (8 : Nat) ^ 23 = 590295810358705651712 := by decide
        omega
    obtain ⟨fn, tmps, assign, body, hy, hR⟩ := HY.out pre d wr.drew (HJ.out _ _ _ HJ1.out (ItTurns.refl _ _).drew) ⟨hlen23, hdn⟩
    have HRR := Lib.hid hR
    clear hn0 hR hlen23
    gi_wp2_with fail
    gi_region_with (refine ⟨fun h => by simp [Fence.wide] at h, HRR.out.mono ?_⟩; rintro e W3 hh; obtain ⟨b, rfl, hh2⟩ := yield_both hh; have HH := Lib.hid hh2; clear hh hh2)
    all_goals
      clear hy c0 c1 cx fx hrem hwd hix hdn hnn hsz
      have hh := HH.out
      cases b
      · have hjx : Jx (pre ++ [d]) W3 := by simpa using hh.1
        have HJ6 := Lib.hid hjx
        clear hjx hh
        go_simp
        gi_wp2
        rw [noGoto_normal]
        refine bodyPost_end (results_none rfl _ _ _) rfl ?_
        exact ⟨⟨_, rfl⟩, .inr ⟨_, trivial, HJ6.out⟩⟩
      · go_simp
        have hj3 : J (pre ++ [d]) W3 := by simpa using hh.1
        have hk3 : KeepR (fun k => k = p ∨ k = x) wr.drew W3 := by simpa using hh.2
        have hp3 := (hk3.same p (.inl rfl)).trans HP.out
        have hx3 := (hk3.same x (.inr rfl)).trans HX.out
        have HJ3 := Lib.hid hj3
        have HP3 := Lib.hid hp3
        have HX3 := Lib.hid hx3
        obtain ⟨q, hq⟩ : ∃ q, q = z / n := ⟨_, rfl⟩
        have hquo : (z : Int).tdiv (n : Int) = (q : Int) := by
          rw [hq, Int.tdiv_eq_ediv_of_nonneg (by omega)]; rfl
        have HQ := Lib.hid hq
        clear hj3 hk3 hh hq
        have hnn : ¬ n = 0 := by have := HN.out; omega
        have c0 := cell_of_block hp3 0
        have cx := cell_of_one hx3
        have fx := free_of_one hx3
        clear hp3 hx3
        have hstep : Pl.rdig n y = pre ++ d :: (if q = 0 then [] else Pl.rdig n q) := by
          rw [HR.out, Pl.rdig_step n z (by have := HN.out; omega), ← HD.out, ← HQ.out]
        have HST := Lib.hid hstep
        have hit : ItTurns (fun k => k = x) W3 (W3.setCell ⟨x, 0, none⟩ (.int .u64 (q : Int))) := ItTurns.set (Xs := fun k => k = x) (ItTurns.refl _ W3) ⟨x, 0, none⟩ _ rfl
        have HJ4 := Lib.hid (HJ.out _ _ _ HJ3.out hit)
        clear hstep hit
        rcases Nat.eq_zero_or_pos q with hq0 | hq0
        · have hquo0 : (z : Int).tdiv (n : Int) = 0 := by rw [hquo, hq0]; rfl
          have HQ0 := Lib.hid hq0
          clear hq0 hquo
          gi_wp2_with fail
          refine bodyPost_end (results_none rfl _ _ _) rfl ?_
          refine ⟨⟨_, rfl⟩, .inl ?_⟩
          have h1 := HST.out
          rw [HQ0.out, if_pos rfl] at h1
          have h2 := HJ4.out
          rw [HQ0.out, ← h1] at h2
          exact h2
        · have hqz : ¬ (q = 0) := by omega
          have hwq : IntKind.u64.wrap (q : Int) = (q : Int) := u64_in _ (by omega) (by
            have h1 := HZB.out
            have h2 : z / n ≤ z := Nat.div_le_self _ _
            have h3 := HQ.out
            omega)
          obtain ⟨Q, hQ⟩ : ∃ Q : Int, Q = (q : Int) := ⟨_, rfl⟩
          rw [← hQ] at hquo hwq
          have hQz : ¬ Q = 0 := by omega
          have hQb : (Q == 0) = false := by simpa using hQz
          have HQQ := Lib.hid hQ
          have HQ0 := Lib.hid hq0
          clear hq0 hQ hqz
          gi_wp2_with fail
          go_roundw
          case rel =>
            have hj := HJ4.out
            rw [← HQQ.out] at hj
            refine ⟨pre ++ [d], q, ?_, ?_, ?_, ?_, .inr HQ0.out, hj⟩
            · rw [Below.heap_setCell _ _ _ _ HPX.out]
              exact HP3.out
            · rw [HQQ.out]
              exact one_setCell HX3.out
            · rw [HST.out, if_neg (by have := HQ0.out; omega)]
              simp
            · have h1 : 8 ^ pre.length * z ≤ y := HL.out
              show 8 ^ (pre ++ [d]).length * q ≤ y
              rw [List.length_append, show [d].length = 1 from rfl, Nat.pow_succ, Nat.mul_assoc]
              refine Nat.le_trans (Nat.mul_le_mul_left _ ?_) h1
              rw [HQ.out]
              exact Nat.le_trans (Nat.mul_le_mul_right _ (by have := HN.out; omega)) (Nat.mul_div_le z n)
          case measure =>
            have h1 : leftN wr x = z := by
              unfold leftN; rw [cell_of_one HX.out]; rfl
            have h2 : leftN (W3.setCell ⟨x, 0, none⟩ (Value.int IntKind.u64 Q)) x = q := by
              unfold leftN; rw [cell_of_one (one_setCell HX3.out), HQQ.out]; rfl
            rw [h1, h2, HQ.out]
            have h3 := HQ0.out
            rw [HQ.out] at h3
            exact Nat.div_lt_self (Nat.pos_of_ne_zero (fun e => by rw [e] at h3; simp at h3)) (by have := HN.out; omega)
end Go.Proofs.YtckfgkmfeklcmaaGreatDoor

/- Numbers as digits: a row of bytes turned round; num.Put. -/
namespace Go.Proofs.YtckfgkmfeklcmaaGreatDoor
open Go.RowKit Go.Shelf
attribute [local go_sem] Oper.semAt_some

def bv (c : UInt8) : Value := .int .u8 (c.toNat : Int)
/-- a row's cells when k rounds have turned its ends -/
def turned (l : List UInt8) (k t : Nat) : UInt8 := if t < k ∨ l.length ≤ t + k then l.getD (l.length - 1 - t) 0 else l.getD t 0
def RevAt (l : List UInt8) (g cap k : Nat) (W : World) : Prop :=
  ∃ c : Array Value, W.heap[g]? = some (.cells c 5 (0, 0)) ∧ c.size = cap ∧ ∀ t, t < l.length → c[t]? = some (bv (turned l k t))

theorem rev_set {l : List UInt8} {g cap k : Nat} {W : World} (h : RevAt l g cap k W) (hk : 2 * k + 1 < l.length) (W' : World)
    (hw : W'.heap[g]? = ((W.setCell ⟨g, k, none⟩ (bv (l.getD (l.length - 1 - k) 0))).setCell ⟨g, l.length - 1 - k, none⟩ (bv (l.getD k 0))).heap[g]?) : RevAt l g cap (k + 1) W' := by
  obtain ⟨c, h1, h2, h3⟩ := h
  refine ⟨(c.setIfInBounds k (bv (l.getD (l.length - 1 - k) 0))).setIfInBounds (l.length - 1 - k) (bv (l.getD k 0)), ?_, by simpa using h2, fun t ht => ?_⟩
  · rw [hw]
    have := Go.Joins.block_setCell (w := W) (i := k) h1 (bv (l.getD (l.length - 1 - k) 0))
    exact Go.Joins.block_setCell (w := W.setCell ⟨g, k, none⟩ (bv (l.getD (l.length - 1 - k) 0))) (i := l.length - 1 - k) this _
  · have hs := h3 t ht
    have hlt : t < c.size := by
      rcases Nat.lt_or_ge t c.size with h | h
      · exact h
      · rw [Array.getElem?_eq_none h] at hs; cases hs
    rw [Array.getElem?_setIfInBounds]
    by_cases e1 : l.length - 1 - k = t
    · rw [if_pos e1, if_pos (by simpa using by omega)]
      unfold turned
      rw [if_pos (by omega), show l.length - 1 - t = k by omega]
    · rw [if_neg e1, Array.getElem?_setIfInBounds]
      by_cases e2 : k = t
      · rw [if_pos e2, if_pos (by omega)]
        unfold turned
        rw [if_pos (by omega), e2]
      · rw [if_neg e2, hs]
        unfold turned
        congr 2
        by_cases e3 : t < k ∨ l.length ≤ t + k
        · rw [if_pos e3, if_pos (by omega)]
        · rw [if_neg e3, if_neg (by omega)]
theorem rev_set' {l : List UInt8} {g cap k : Nat} {W : World} (h : RevAt l g cap k W) (hk : 2 * k + 1 < l.length) (W' : World)
    (hw : W'.heap[g]? = ((W.setCell ⟨g, l.length - 1 - k, none⟩ (bv (l.getD k 0))).setCell ⟨g, k, none⟩ (bv (l.getD (l.length - 1 - k) 0))).heap[g]?) : RevAt l g cap (k + 1) W' := by
  refine rev_set h hk W' (hw.trans ?_)
  obtain ⟨c, h1, h2, h3⟩ := h
  have a1 := Go.Joins.block_setCell (w := W) (i := k) h1 (bv (l.getD (l.length - 1 - k) 0))
  have a2 := Go.Joins.block_setCell (w := W.setCell ⟨g, k, none⟩ (bv (l.getD (l.length - 1 - k) 0))) (i := l.length - 1 - k) a1 (bv (l.getD k 0))
  have b1 := Go.Joins.block_setCell (w := W) (i := l.length - 1 - k) h1 (bv (l.getD k 0))
  have b2 := Go.Joins.block_setCell (w := W.setCell ⟨g, l.length - 1 - k, none⟩ (bv (l.getD k 0))) (i := k) b1 (bv (l.getD (l.length - 1 - k) 0))
  rw [a2, b2, Array.setIfInBounds_comm _ _ (by omega)]
theorem rev_done {l : List UInt8} {g cap k : Nat} {W : World} (h : RevAt l g cap k W) (hk : l.length ≤ 2 * k + 1) (hc : l.length ≤ cap) (hm : cap ≤ maxLen) (base : Nat) (hb : base ≤ g) :
    W.ownsRow base 5 1 (.slice (some ⟨g, 0, none⟩) l.length cap) l.reverse.length (vb l.reverse) := by
  obtain ⟨c, h1, h2, h3⟩ := h
  refine ⟨by simp [vb], .inr ⟨g, cap, c, by rw [List.length_reverse], hb, h1, by simpa using hc, hm, by simpa using h2, ?_⟩⟩
  apply List.ext_getElem?
  intro t
  simp only [List.length_reverse, Nat.mul_one]
  by_cases ht : t < l.length
  · rw [List.getElem?_take_of_lt ht, Array.getElem?_toList, h3 t ht]
    simp only [vb, List.getElem?_map]
    rw [List.getElem?_reverse ht]
    have h4 : turned l k t = l.getD (l.length - 1 - t) 0 := by
      unfold turned
      by_cases e : t < k ∨ l.length ≤ t + k
      · rw [if_pos e]
      · rw [if_neg e, show l.length - 1 - t = t by omega]
    rw [h4]
    simp [List.getD, show l.length - 1 - t < l.length by omega, bv]
  · rw [List.getElem?_eq_none (by simp; omega), List.getElem?_eq_none (by simp [vb]; omega)]

set_option maxRecDepth 100000 in
set_option maxHeartbeats 1600000 in
theorem reverse_any (base : Nat) (v : Value) (l : List UInt8) (w : World) (hrow : w.ownsRow base 5 1 v l.length (vb l)) (hn : l.length ≤ 1000000000000) :
    Calls Tryz.prog 119 #[v] w fun e w' => e = .returned (.tuple #[]) ∧ w'.ownsRow base 5 1 v l.reverse.length (vb l.reverse) ∧ (∀ k, some k ≠ v.ownBlock → w'.heap[k]? = w.heap[k]?) ∧ Below base w w' ∧ w'.heap.size = w.heap.size := by
  rcases hrow.2 with ⟨rfl, h0⟩ | ⟨g, cap, cur, rfl, hbg, hg, hnc, hcm, hcs, htake⟩
  · have hl : l = [] := List.length_eq_zero_iff.1 h0
    subst hl
    clear hrow
    go_enter Tryz.func119, Tryz.ntmps119
    go_wp2
    refine wp_loop_rounds 1 ?_
    rw [rounds_succ]
    go_wp2
    go_end0
    exact ⟨rfl, World.ownsRow_nil _ _ _ _, fun _ _ => rfl, Below.refl _ _, rfl⟩
  · have h0 : RevAt l g cap 0 w := ⟨cur, hg, by simpa using hcs, fun t ht => by
      have h1 : (cur.toList.take (l.length * 1))[t]? = (vb l)[t]? := by rw [htake]
      rw [Nat.mul_one, List.getElem?_take_of_lt ht, Array.getElem?_toList] at h1
      rw [h1]
      unfold turned
      rw [if_neg (by omega)]
      simp [vb, bv, List.getD, ht]⟩
    have H0 := Lib.hid h0
    clear hrow hg htake h0 hcs
    go_enter Tryz.func119, Tryz.ntmps119
    go_wp2
    go_loopw [2, 3] (fun i j wr => ∃ k : Nat, i = .int .i64 (k : Int) ∧ j = .int .i64 ((l.length : Int) - 1 - k) ∧ 2 * k ≤ l.length ∧ RevAt l g cap k wr ∧ (∀ q, q ≠ g → wr.heap[q]? = w.heap[q]?) ∧ Below base w wr ∧ wr.heap.size = w.heap.size) (fun i _ _ => l.length - (intOf i).toNat)
    case atStart => exact ⟨0, rfl, by simp, by omega, H0.out, fun _ _ => rfl, Below.refl _ _, rfl⟩
    case round =>
      obtain ⟨k, rfl, rfl, hk, hra, hother, hbel, hsize⟩ := hrel
      have HRA := Lib.hid hra
      have HO := Lib.hid hother
      have HBE := Lib.hid hbel
      have HSZ := Lib.hid hsize
      clear hother hbel hsize
      by_cases hlt : 2 * k + 1 < l.length
      · obtain ⟨c, h1, h2, h3⟩ := hra
        have ck : wr.cell? ⟨g, k, none⟩ = some (bv (l.getD k 0)) := by
          have hx : turned l k k = l.getD k 0 := by unfold turned; rw [if_neg (by omega)]
          simp only [World.cell?, h1]
          exact (h3 k (by omega)).trans (by rw [hx])
        have cj : wr.cell? ⟨g, l.length - 1 - k, none⟩ = some (bv (l.getD (l.length - 1 - k) 0)) := by
          have hx : turned l k (l.length - 1 - k) = l.getD (l.length - 1 - k) 0 := by unfold turned; rw [if_neg (by omega)]
          simp only [World.cell?, h1]
          exact (h3 _ (by omega)).trans (by rw [hx])
        obtain ⟨m, hm⟩ : ∃ m, m = l.length - 1 - k := ⟨_, rfl⟩
        have hmi : (l.length : Int) - 1 - k = (m : Int) := by omega
        rw [← hm] at cj
        have fk := frozen_of_block h1 k
        have fj := frozen_of_block h1 m
        obtain ⟨x, hx⟩ : ∃ x, x = bv (l.getD k 0) := ⟨_, rfl⟩
        obtain ⟨y, hy⟩ : ∃ y, y = bv (l.getD m 0) := ⟨_, rfl⟩
        rw [← hx] at ck
        rw [← hy] at cj
        obtain ⟨x', hx'⟩ : ∃ x' : Int, x = .int .u8 x' := ⟨_, hx⟩
        obtain ⟨y', hy'⟩ : ∃ y' : Int, y = .int .u8 y' := ⟨_, hy⟩
        rw [hx'] at ck
        rw [hy'] at cj
        have HX := Lib.hid (hx'.symm.trans hx)
        have HYY := Lib.hid (hy'.symm.trans hy)
        clear hx hy hx' hy'
        have HM := Lib.hid hm
        have hkm : k ≠ m := by omega
        have hkl : (k : Int) < (l.length : Int) := by omega
        have hml : (m : Int) < (l.length : Int) := by omega
        have hlm : (k : Int) < (m : Int) := by omega
        rw [hmi]
        clear h1 h2 h3 hm hmi
        go_wp2_with fail
        go_region
        all_goals
          clear ck cj fk fj
          go_wp2_with fail
          go_roundw
          case rel =>
            refine ⟨k + 1, by go_num, ?_, by omega, ?_, fun q hq => ?_, ?_, ?_⟩
            · have := HM.out
              congr 1; omega
            · first
              | exact rev_set HRA.out hlt _ (by rw [← HM.out, ← HX.out, ← HYY.out]; rfl)
              | exact rev_set' HRA.out hlt _ (by rw [← HM.out, ← HX.out, ← HYY.out]; rfl)
            · refine Eq.trans ?_ (HO.out q hq)
              exact (Below.heap_setCell _ _ _ _ hq).trans (Below.heap_setCell _ _ _ _ hq)
            · exact ((HBE.out.drew).setCell (p := ⟨g, _, none⟩) hbg _).setCell (p := ⟨g, _, none⟩) hbg _
            · simpa using HSZ.out
          case measure => simp [intOf]; omega
      · have hnl : ¬ ((k : Int) < (l.length : Int) - 1 - k) := by omega
        clear hra
        go_wp2_with fail
        go_end0
        refine ⟨rfl, by simpa only [List.length_reverse] using rev_done HRA.out (by omega) (by simpa using hnc) hcm base hbg, fun q hq => HO.out q (fun e => hq (by rw [e]; rfl)), HBE.out, HSZ.out⟩
end Go.Proofs.YtckfgkmfeklcmaaGreatDoor

/- strings.Builder, also where it lies ahead of other fields in its block: written, read. -/
namespace Go.Proofs.YtckfgkmfeklcmaaGreatDoor
open Go.RowKit Go.Shelf
attribute [local go_sem] Oper.semAt_some

theorem Tryz.info8 : (Tryz.prog.info? 5).map (fun i => (i.zero, i.size, i.bytes)) = some (some (.int .u8 0), 1, 1) := by kernel_rfl
theorem Tryz.infoB : (Tryz.prog.info? 47).map (·.size) = some 2 := by kernel_rfl
/-- a type that begins with a Builder, n cells in all -/
structure BK (T n : Nat) : Prop where
  lies : liesAt Tryz.prog Tryz.prog.depth T (n / Tryz.prog.cellsOf T) 0 47 1 = true
  ne : T ≠ 5
theorem bk_plain : BK 47 2 := ⟨by kernel_rfl, by decide⟩
theorem bk_writer : BK 95 3 := ⟨by kernel_rfl, by decide⟩

/-- a Builder at the head of block b (of type T), made by the call (blocks from M on), holding these bytes; 'r': the block's other cells -/
def BldAt (M b T : Nat) (r : Array Value) (p : Value) (l : List UInt8) (w : World) : Prop :=
  M ≤ b ∧ ∃ v, w.heap[b]? = some (.cells (#[p, v] ++ r) T (0, 0)) ∧ w.ownsRow M 5 1 v l.length (vb l) ∧ v.ownBlock ≠ some b
def Bld (M b T : Nat) (r : Array Value) (l : List UInt8) (w : World) : Prop :=
  ∃ p, (p = .pointer none ∨ p = .pointer (some ⟨b, 0, none⟩)) ∧ BldAt M b T r p l w
theorem BldAt.lt {M b T : Nat} {r : Array Value} {p : Value} {l : List UInt8} {w : World} (h : BldAt M b T r p l w) : b < w.heap.size := by
  obtain ⟨_, v, h, _⟩ := h; exact lt_of_block h
theorem cell_app {w : World} {b T i : Nat} {p v x : Value} {r : Array Value} (h : w.heap[b]? = some (.cells (#[p, v] ++ r) T (0, 0))) (hx : (#[p, v] ++ r)[i]? = some x) : w.cell? ⟨b, i, none⟩ = some x := by
  simp only [World.cell?, h]; exact hx
theorem cell_app0 {w : World} {b T : Nat} {p v : Value} {r : Array Value} (h : w.heap[b]? = some (.cells (#[p, v] ++ r) T (0, 0))) : w.cell? ⟨b, 0, none⟩ = some p := cell_app h (by cases r; simp)
theorem cell_app1 {w : World} {b T : Nat} {p v : Value} {r : Array Value} (h : w.heap[b]? = some (.cells (#[p, v] ++ r) T (0, 0))) : w.cell? ⟨b, 1, none⟩ = some v := cell_app h (by cases r; simp)
theorem set0 (p q v : Value) (r : Array Value) : (#[p, v] ++ r).setIfInBounds 0 q = #[q, v] ++ r := by
  cases r; simp
theorem set1 (p q v : Value) (r : Array Value) : (#[p, v] ++ r).setIfInBounds 1 q = #[p, q] ++ r := by
  cases r; simp
theorem heap_setCell_at {w : World} {b i T : Nat} {c : Array Value} {f : Nat × Nat} {v : Value} (h : w.heap[b]? = some (.cells c T f)) : (w.setCell ⟨b, i, none⟩ v).heap[b]? = some (.cells (c.setIfInBounds i v) T f) := by
  simp [World.setCell, Array.getElem?_modify, h]

set_option maxRecDepth 100000 in
set_option maxHeartbeats 1600000 in
theorem copyCheck_any (M b T n : Nat) (r : Array Value) (l : List UInt8) (w : World) (hk : BK T n) (hn : r.size + 2 = n) (h : Bld M b T r l w) :
    Calls Tryz.prog 28 #[.pointer (some ⟨b, 0, none⟩)] w fun e w' => e = .returned (.tuple #[]) ∧ BldAt M b T r (.pointer (some ⟨b, 0, none⟩)) l w' ∧ Below M w w' ∧ Lib.OthersKept 5 (some b) w w' ∧ w'.heap.size = w.heap.size := by
  obtain ⟨p, hp, hB, v, hb, hown, hne⟩ := h
  have c0 : w.cell? ⟨b, 0, none⟩ = some p := cell_app0 hb
  have f0 : w.frozen? ⟨b, 0, none⟩ = false := Lib.frozen_of_heap hb 0
  have hsh : w.shape? b = some (T, n) := by simp [World.shape?, hb, ← hn]; omega
  obtain ⟨j, hj, hjs⟩ := Option.map_eq_some_iff.1 Tryz.infoB
  rcases hp with rfl | rfl
  · have HOWN := Lib.hid hown
    have HB := Lib.hid hb
    clear hown hb
    go_enter Tryz.func28, Tryz.ntmps28
    go_wp2
    rw [Lib.run_to_unsafe w ⟨b, 0, none⟩ Tryz.underlying44 Tryz.underlying72 hj (by rw [hjs]; decide) hsh (by show 0 < n; omega)]
    simp only [Result.andThen]
    rw [Oper.upon_value]
    go_wp2
    rw [run_callFunc_extern Tryz.func45 (by kernel_rfl) (by kernel_rfl) (by kernel_rfl) (e := Extern.AbiNoEscape.same) (by kernel_rfl)]
    rw [Lib.run_noEscape]
    simp only [Result.andThen]
    rw [Oper.upon_value]
    go_wp2
    rw [Lib.run_from_unsafe w ⟨b, 0, none⟩ Tryz.underlying72 Tryz.underlying44 hj hsh hk.lies]
    simp only [Result.andThen]
    rw [Oper.upon_value]
    go_wp2
    go_end0
    refine ⟨rfl, ⟨hB, v, ?_, ownsRow_setCell_other HOWN.out (fun e => hne e) _, hne⟩, (Below.refl M w).setCell (p := ⟨b, 0, none⟩) hB _, (Lib.OthersKept.refl _ _ w).setCell ⟨b, 0, none⟩ rfl _, by simp⟩
    rw [heap_setCell_at HB.out, set0]
  · have HOWN := Lib.hid hown
    have HB := Lib.hid hb
    clear hown hb
    go_enter Tryz.func28, Tryz.ntmps28
    go_wp2
    rw [Lib.run_neq_ptr_same w _ Tryz.underlying44 hj]
    go_wp2
    go_end0
    exact ⟨rfl, ⟨hB, v, HB.out, HOWN.out, hne⟩, Below.refl M _, Lib.OthersKept.refl _ _ _, rfl⟩

set_option maxRecDepth 100000 in
set_option maxHeartbeats 1600000 in
/-- (*strings.Builder).WriteString -/
theorem writeString_any (M b T n : Nat) (r : Array Value) (l s : List UInt8) (w : World) (hk : BK T n) (hn : r.size + 2 = n) (hlen : l.length + s.length ≤ 140737488355328) (hM : M ≤ w.heap.size) (h : Bld M b T r l w) :
    Calls Tryz.prog 19 #[.pointer (some ⟨b, 0, none⟩), .string (mk s)] w fun e w' => e = .returned (.tuple #[.int .i64 (s.length : Int), .nilIface]) ∧ BldAt M b T r (.pointer (some ⟨b, 0, none⟩)) (l ++ s) w' ∧ Below M w w' ∧
      Lib.OthersKept 5 (some b) w w' ∧ w.heap.size ≤ w'.heap.size := by
  obtain ⟨i0, hi, hz0, hz1, hz2⟩ := info_parts Tryz.info8
  have hsz := mk_size s
  go_enter Tryz.func19, Tryz.ntmps19
  go_wp2_with fail
  refine (copyCheck_any M b T n r l w hk hn h).mono ?_
  rintro e w1 ⟨rfl, ⟨hB, v, hb, hown, hne⟩, hb1, hk1, hs1⟩
  have c0 : w1.cell? ⟨b, 0, none⟩ = some (.pointer (some ⟨b, 0, none⟩)) := cell_app0 hb
  have c1 : w1.cell? ⟨b, 1, none⟩ = some v := cell_app1 hb
  have HB := Lib.hid hb
  have HOWN := Lib.hid hown
  have HB1 := Lib.hid hb1
  have HK1 := Lib.hid hk1
  clear hb hown hb1 hk1
  go_wp2_with (at_builtin; refine Lib.wpList_append_own_string _ rfl _ _ 45 9 rfl M 5 i0 Tryz.underlying45 Tryz.underlying9 hi hz0 hz1 hz2 _ _ _ rfl HOWN.out (mk s) rfl ?c3 ?c4 ?c5 ?_)
  case c3 => unfold maxLen; omega
  case c4 => omega
  case c5 => omega
  intro v' w2 hown' hgrow _
  have hlt := lt_of_block HB.out
  have hb2 : w2.heap[b]? = some (.cells (#[.pointer (some ⟨b, 0, none⟩), v] ++ r) T (0, 0)) := (hgrow.block b hlt (fun e => hne e.symm)).trans HB.out
  have d0 : w2.cell? ⟨b, 0, none⟩ = some (.pointer (some ⟨b, 0, none⟩)) := cell_app0 hb2
  have d1 : w2.cell? ⟨b, 1, none⟩ = some v := cell_app1 hb2
  have f1 : w2.frozen? ⟨b, 1, none⟩ = false := Lib.frozen_of_heap hb2 1
  obtain ⟨ao, n', cap, rfl⟩ : ∃ ao n' cap, v' = .slice ao n' cap := by
    rcases hown'.2 with ⟨hv, _⟩ | ⟨g, cap, cur, hv, _⟩
    · exact ⟨_, _, _, hv⟩
    · exact ⟨_, _, _, hv⟩
  have HB2 := Lib.hid hb2
  have HOWN2 := Lib.hid hown'
  have HG := Lib.hid hgrow
  clear hb2 hown' hgrow c0 c1
  go_wp2
  go_ret2
  have hne2 : (Value.slice ao n' cap).ownBlock ≠ some b := by
    intro e
    rcases HOWN2.out.2 with ⟨hv, _⟩ | ⟨g, cap', cur, hv, _, hg, _⟩
    · rw [hv] at e; simp [Value.ownBlock] at e
    · rw [hv] at e
      simp [Value.ownBlock] at e
      subst e
      rw [HB2.out] at hg
      injection hg with hg; injection hg with _ hT _
      exact hk.ne hT
  refine ⟨rfl, ⟨hB, _, ?_, ownsRow_setCell_other (?_ : w2.ownsRow M 5 1 _ _ _) (fun e => hne2 e) _, hne2⟩, ?_, ?_, ?_⟩
  · rw [heap_setCell_at HB2.out, set1]
  · have := HOWN2.out
    rw [List.length_append, vb_app]
    rw [show Lib.strCells (mk s) = vb s from by simp [Lib.strCells, vb, mk_list]] at this
    exact this
  · exact (HB1.out.grown HG.out (by omega) (fun k hk => (HOWN.out.lt k hk).1)).setCell (p := ⟨b, 1, none⟩) hB _
  · refine (HK1.out.grown HG.out (fun g hg => ?_)).setCell ⟨b, 1, none⟩ rfl _
    rcases HOWN.out.2 with ⟨hv, _⟩ | ⟨g', cap', cur, hv, _, hgg, _⟩
    · rw [hv] at hg; simp [Value.ownBlock] at hg
    · rw [hv] at hg
      simp [Value.ownBlock] at hg
      subst hg
      exact ⟨cur, _, hgg⟩
  · have := HG.out.size
    simp; omega

theorem Tryz.cells8 : Tryz.prog.cellsOf 5 = 1 := by kernel_rfl
set_option maxRecDepth 100000 in
set_option maxHeartbeats 1600000 in
/-- (*strings.Builder).String -/
theorem string_any (M b T : Nat) (r : Array Value) (l : List UInt8) (w : World) (hM : M ≤ w.heap.size) (h : Bld M b T r l w) :
    Calls Tryz.prog 20 #[.pointer (some ⟨b, 0, none⟩)] w fun e w' => e = .returned (.string (mk l)) ∧ Below M w w' ∧ Lib.OthersKept 5 (some b) w w' := by
  obtain ⟨p, hp, hB, v, hb, hown, hne⟩ := h
  have hlt := lt_of_block hb
  rcases hown.2 with ⟨rfl, h0⟩ | ⟨g, cap, cur, rfl, hbg, hg, hnc, hcm, hcs, htake⟩
  · have hl : l = [] := List.length_eq_zero_iff.1 h0
    subst hl
    have hmk : mk [] = ByteArray.empty := rfl
    have hUS := fun (W : World) => Lib.run_unsafeString_none (P := Tryz.prog) W 67 3 9 none
    have c1 : w.drew.cell? ⟨b, 1, none⟩ = some (.slice none 0 0) := cell_app1 (show w.drew.heap[b]? = _ from hb)
    have hSD : (Builtin.unsafeSliceData_ #[45] 67 #[.slice none 0 0]).run Tryz.prog w.drew = .ok (.pointer none) w.drew := rfl
    clear hown hb
    go_enter Tryz.func20, Tryz.ntmps20
    go_wp2
    go_region
    all_goals (go_wp2; go_ret; exact ⟨rfl, Below.drew (Below.refl M w), (Lib.OthersKept.refl _ _ w).drew⟩)
  · by_cases hl0 : l.length = 0
    · have hl : l = [] := List.length_eq_zero_iff.1 hl0
      subst hl
      have hmk : mk [] = ByteArray.empty := rfl
      have hUS := fun (W : World) q => Lib.run_unsafeString_none (P := Tryz.prog) W 67 3 9 q
      have c1 : w.drew.cell? ⟨b, 1, none⟩ = some (.slice (some ⟨g, 0, none⟩) 0 cap) := cell_app1 (show w.drew.heap[b]? = _ from hb)
      by_cases hc0 : cap = 0
      · subst hc0
        have hSD : (Builtin.unsafeSliceData_ #[45] 67 #[.slice (some ⟨g, 0, none⟩) 0 0]).run Tryz.prog w.drew = .ok (.pointer (some ⟨w.drew.heap.size, 0, none⟩)) (w.drew.alloc (.view ⟨g, 0, none⟩ 5)) :=
          Lib.run_unsafeSliceData_zero w.drew _ _ 5 Tryz.underlying67 ⟨g, 0, none⟩ 0 (5, cur.size) (by have hg' : w.drew.heap[g]? = some (.cells cur 5 (0, 0)) := hg; simp [World.shape?, hg'])
        have c2 : (w.drew.alloc (.view ⟨g, 0, none⟩ 5)).cell? ⟨b, 1, none⟩ = some (.slice (some ⟨g, 0, none⟩) 0 0) := by
          rw [World.cell?_alloc_lt _ _ _ (by exact hlt)]; exact c1
        have c3 : (w.alloc (.view ⟨g, 0, none⟩ 5)).drew.cell? ⟨b, 1, none⟩ = some (.slice (some ⟨g, 0, none⟩) 0 0) := c2
        have c0 : w.cell? ⟨b, 1, none⟩ = some (.slice (some ⟨g, 0, none⟩) 0 0) := c1
        clear hown hb hg
        go_enter Tryz.func20, Tryz.ntmps20
        go_wp2
        go_region
        all_goals (go_wp2; go_ret; exact ⟨rfl, (Below.drew (Below.refl M w)).alloc hM _, ((Lib.OthersKept.refl _ _ w).drew).alloc _⟩)
      · have hSD : (Builtin.unsafeSliceData_ #[45] 67 #[.slice (some ⟨g, 0, none⟩) 0 cap]).run Tryz.prog w.drew = .ok (.pointer (some ⟨g, 0, none⟩)) w.drew :=
          Lib.run_unsafeSliceData_row _ _ _ _ _ _ hc0
        clear hown hb hg hc0
        go_enter Tryz.func20, Tryz.ntmps20
        go_wp2
        go_region
        all_goals (go_wp2; go_ret; exact ⟨rfl, Below.drew (Below.refl M w), (Lib.OthersKept.refl _ _ w).drew⟩)
    · have h0 : l ≠ [] := fun e => hl0 (by rw [e]; rfl)
      have c1 : w.drew.cell? ⟨b, 1, none⟩ = some (.slice (some ⟨g, 0, none⟩) l.length cap) := cell_app1 (show w.drew.heap[b]? = _ from hb)
      have hSD : (Builtin.unsafeSliceData_ #[45] 67 #[.slice (some ⟨g, 0, none⟩) l.length cap]).run Tryz.prog w.drew = .ok (.pointer (some ⟨g, 0, none⟩)) w.drew :=
        Lib.run_unsafeSliceData_row _ _ _ _ _ _ (by omega)
      have hUS : (Builtin.unsafeString_ #[67, 3] 9 #[.pointer (some ⟨g, 0, none⟩), .int .i64 l.length]).run Tryz.prog w.drew = .ok (.string ⟨l.toArray⟩) (w.drew.freeze ⟨g, 0, none⟩ l.length) := by
        refine Lib.run_unsafeString_row w.drew 67 3 9 5 Tryz.underlying67 Tryz.cells8 g cur.size (by have hg' : w.drew.heap[g]? = some (.cells cur 5 (0, 0)) := hg; simp [World.shape?, hg']) l h0 (by omega) (by unfold maxLen at hcm; omega) ?_
        intro j x hx
        exact hown.cells (g := g) rfl j (.int .u8 x.toNat) (by simp [vb, hx])
      have HG := Lib.hid hg
      clear hown hb hg
      go_enter Tryz.func20, Tryz.ntmps20
      go_wp2
      go_region
      all_goals (go_wp2; go_ret; exact ⟨rfl, Lib.below_freeze (Below.drew (Below.refl M w)) (p := ⟨g, 0, none⟩) hbg _, ((Lib.OthersKept.refl _ _ w).drew).freeze ⟨g, 0, none⟩ _ ⟨cur, _, HG.out⟩⟩)
end Go.Proofs.YtckfgkmfeklcmaaGreatDoor

/- Numbers as digits: num.Put. -/
namespace Pl
theorem rdigF_len (b : Nat) (hb : 2 ≤ b) : ∀ k x j, x < 2 ^ j → (rdigF b k x).length ≤ j + 1 := by
  intro k
  induction k with
  | zero => intro x j _; simp [rdigF]
  | succ k ih =>
    intro x j h
    rw [rdigF]
    by_cases hx : x / b = 0
    · simp [hx]
    · rw [if_neg hx]
      cases j with
      | zero =>
        have : x = 0 := by simpa using h
        subst this; simp at hx
      | succ j =>
        have h1 : x / b < 2 ^ j := by
          rw [Nat.div_lt_iff_lt_mul (by omega)]
          calc x < 2 ^ j * 2 := by rw [← Nat.pow_succ]; exact h
            _ ≤ 2 ^ j * b := Nat.mul_le_mul_left _ hb
        have := ih (x / b) j h1
        simp only [List.length_cons]; omega
theorem rdig_len (b x j : Nat) (hb : 2 ≤ b) (h : x < 2 ^ j) : (rdig b x).length ≤ j + 1 := rdigF_len b hb _ x j h
end Pl
namespace Go.Proofs.YtckfgkmfeklcmaaGreatDoor
open Go.RowKit Go.Shelf
attribute [local go_sem] Oper.semAt_some

set_option maxHeartbeats 400000 in
theorem reversed_make (n x : Int) (s : ByteArray) (w : World) : Calls Tryz.prog 118 #[.agg #[.int .u64 n, .string s], .int .u64 x] w fun e w' =>
    e = .returned (.func (.func 148) #[] #[.pointer (some ⟨w.heap.size, 0, none⟩), .pointer (some ⟨w.heap.size + 1, 0, none⟩)]) ∧ w' = (w.alloc (.cells #[.int .u64 n, .string s] 197)).alloc (.cells #[.int .u64 x] 173) := by
  have hmf := @run_makeFunc Tryz.prog
  go_enter Tryz.func118, Tryz.ntmps118
  go_wp2
  go_ret
  exact ⟨rfl, rfl⟩
theorem Tryz.enters_rev (args : Array Value) (w : World) : (callFunc 148 args).run Tryz.prog w = .ok (.enter 148 args) w := enters_of Tryz.func148 (by kernel_rfl) rfl args w

set_option maxRecDepth 100000 in
set_option maxHeartbeats 1600000 in
theorem numPut_any (n x : Nat) (w : World) (hn : n = 8 ∨ n = 10 ∨ n = 16) (hx : (x : Int) < 18446744073709551616) :
    Calls Tryz.prog 95 #[.int .i64 (n : Int), .int .u64 (x : Int)] w fun e w' => e = .returned (.string (mk (Pl.numPut n x))) ∧ Up w w' := by
  refine (callsIn_wide (n := 3)).1 ?_
  obtain ⟨i0, hi, hz0, hz1, hz2⟩ := info_parts Tryz.info8
  have HN := Lib.hid hn
  have HXX := Lib.hid hx
  clear hn hx
  refine callsIn_of_wp_marks Tryz.func95 rfl trivial ?_ rfl
  simp only [Tryz.ntmps95, List.size_toArray, List.length_cons, List.length_nil, Nat.reduceAdd, Nat.reduceSub, Array.replicate_succ, Array.replicate_zero, List.push_toArray, List.append_toArray, List.nil_append, List.cons_append]
  gi_wp2_with fail
  refine ⟨trivial, (callsIn_wide.2 (of_yes n _ HN.out)).mono ?_⟩
  rintro e w1 ⟨rfl, hu1⟩
  have HU1 := Lib.hid hu1
  clear hu1
  gi_wp2_with fail
  refine ⟨trivial, (callsIn_wide.2 (reversed_make _ _ _ _)).mono ?_⟩
  rintro e w2 ⟨rfl, hw2⟩
  have hsz : w2.heap.size = w1.heap.size + 4 := by rw [hw2]; simp
  have hl : w2.heap[w1.heap.size + 1]? = some (.cells #[.slice none 0 0] 45 (0, 0)) := by
    rw [hw2, Below.heap_alloc _ _ _ (by simp <;> omega), Below.heap_alloc _ _ _ (by simp)]; exact heap_new (by simp)
  have hp : w2.heap[w1.heap.size + 2]? = some (.cells #[.int .u64 (n : Int), .string (mk (digitsL.take n))] 197 (0, 0)) := by
    rw [hw2, Below.heap_alloc _ _ _ (by simp <;> omega)]; exact heap_new (by simp)
  have hx : w2.heap[w1.heap.size + 3]? = some (.cells #[.int .u64 (x : Int)] 173 (0, 0)) := by
    rw [hw2]; exact heap_new (by simp)
  have hu : Up w w2 := by rw [hw2]; exact (((HU1.out.alloc _).alloc _).alloc _).alloc _
  rw [show ((w1.alloc (Obj.cells #[Value.int IntKind.u64 ↑n, Value.string (mk (List.take n digitsL))] 197)).alloc (Obj.cells #[Value.slice none 0 0] 45)).heap.size = w1.heap.size + 2 from by simp]
  have hle : w.heap.size ≤ w1.heap.size := HU1.out.size
  have HX := Lib.hid hx
  have HL := Lib.hid hl
  have HP := Lib.hid hp
  have HU := Lib.hid hu
  have HSZ := Lib.hid hsz
  clear hx hl hp hu hsz hw2 HU1
  generalize w1.heap.size = q at *
  gi_wp2_with fail
  refine wpIn_rangeC (gf := 148) (lb := #[.pointer (some ⟨q + 2, 0, none⟩), .pointer (some ⟨q + 3, 0, none⟩)]) rfl Tryz.enters_rev (rev_seq n (q + 2) (q + 3) x w2 HN.out (by omega) HP.out HX.out HXX.out) (by have := HSZ.out; intro k hk; omega)
    ?hS (fun _ _ _ _ _ => trivial) (fun _ => rfl)
    (fun pre W => (∃ v, W.heap[q + 1]? = some (.cells #[v] 45 (0, 0)) ∧ W.ownsRow (q + 4) 5 1 v pre.length (vb (pre.map Pl.digByte))) ∧ Up w W)
    (fun _ _ _ => False) ?hI (fun _ _ _ _ h _ => h) ⟨⟨_, HL.out, World.ownsRow_nil _ _ _ _⟩, HU.out⟩
    (fun d => { tmps := #[Value.int IntKind.i64 ↑n, Value.int IntKind.u64 ↑x, undef, undef, Value.string { data := #[] }, Value.pointer (some { block := q, off := 0 }), Value.nilIface,
                Value.pointer (some { block := q + 1, off := 0 }), Value.int .u8 ((Pl.digByte d).toNat : Int),
                Value.tuple #[Value.agg #[Value.int IntKind.u64 ↑n, Value.string (mk (List.take n digitsL))], Value.nilIface],
                Value.int IntKind.i64 ↑n,
                Value.tuple #[Value.agg #[Value.int IntKind.u64 ↑n, Value.string (mk (List.take n digitsL))], Value.nilIface],
                Value.agg #[Value.int IntKind.u64 ↑n, Value.string (mk (List.take n digitsL))], Value.nilIface, Value.nilIface, Value.bool false,
                Value.agg #[Value.int IntKind.u64 ↑n, Value.string (mk (List.take n digitsL))],
                Value.int IntKind.u64 ↑x, Value.func (Fn.func 148) #[] #[Value.pointer (some ⟨q + 2, 0, none⟩), Value.pointer (some ⟨q + 3, 0, none⟩)], Value.int .u8 ((Pl.digByte d).toNat : Int), undef, undef, undef, undef, undef, undef, undef, undef], defers := [] }) (by have := HSZ.out; intro k hk; omega) ?assign ?body ?done ?stop
  case hS =>
    rintro xs A B h1 ht
    exact h1
  case hI =>
    rintro pre A B ⟨⟨v, h1, h2⟩, h3⟩ ht
    refine ⟨⟨v, ht.cells h1 (by omega), ht.row h2 (by intro k hk; omega)⟩, ht.below h3 (by have := HSZ.out; omega) (Nat.le_refl _) (by intro k hk; omega)⟩
  case assign =>
    intro l x W K hK
    gi_wp2
    exact hK
  case body =>
    rintro l pre r W ⟨⟨v, hl, hrow⟩, hup⟩ ⟨hlen, hr⟩ hsz
    have hsz' := HSZ.out
    have cl := cell_of_one hl
    have fl := free_of_one hl
    have HL1 := Lib.hid hl
    have HROW := Lib.hid hrow
    have HUP := Lib.hid hup
    have HW := Lib.hid hsz
    clear hl hrow hup hsz hsz'
    gi_wp2_with (gi_at_builtin; go_must (refine wpListIn_append_own _ rfl _ _ 45 rfl (q + 4) 5 i0 (.int .u8 0) 1 1 Tryz.underlying45 hi hz0 hz1 hz2 rfl (by decide) _ _ _ rfl (HROW.out.alloc _) ⟨W.heap.size, 0, none⟩ 1 1 [.int .u8 ((Pl.digByte r).toNat : Int)] rfl rfl (cell_one_new _ _ _) (by simp [Value.oneCell']) (by unfold maxLen; omega) (by omega) (by have := HW.out; have := HSZ.out; simp; omega) ?_); intro v2 w3 hown2 hg2 _; obtain ⟨g2, cap2, rfl⟩ := ownsRow_succ hown2; have hlt := lt_of_block HL1.out; have hne : some (q + 1) ≠ v.ownBlock := (by intro e; have := (HROW.out.lt _ e.symm).1; omega); have hl2 : w3.heap[q + 1]? = some (.cells #[v] 45 (0, 0)) := (hg2.block _ (by simp; omega) hne).trans ((Below.heap_alloc _ _ _ hlt).trans HL1.out); have cl := cell_of_one hl2; have fl := free_of_one hl2; have HO2 := Lib.hid hown2; have HG2 := Lib.hid hg2; have HL2 := Lib.hid hl2; clear hown2 hg2 hl2 hlt hne)
    obtain ⟨q1, q2, q3, q4, q5⟩ := box_append HL1.out HROW.out (by omega) (by have := HW.out; have := HSZ.out; omega) HO2.out HG2.out
    refine ⟨q1, ⟨q1.size, fun k hk => q2 k (by omega) (by omega)⟩, ⟨_, q3, ?_⟩, ?_⟩
    · rw [List.length_append, List.map_append, vb_app]; exact q4
    · exact Below.trans HUP.out (q5.mono (by omega))
  case done =>
    rintro D xs W hx ⟨⟨v, hl, hrow⟩, hup⟩ hK hD
    have hx' : xs = Pl.rdig n x := hx
    subst hx'
    have cl := cell_of_one hl
    have hrow1 : W.ownsRow (q + 4) 5 1 v ((Pl.rdig n x).map Pl.digByte).length (vb ((Pl.rdig n x).map Pl.digByte)) := by rw [List.length_map]; exact hrow
    have HROW := Lib.hid hrow1
    have HUP := Lib.hid hup
    have HK := Lib.hid hK
    have HL1 := Lib.hid hl
    clear hl hrow hrow1 hup hK hx
    gi_wp2_with fail
    refine ⟨trivial, (callsIn_wide.2 (reverse_any (q + 4) v _ _ HROW.out ?len)).mono ?_⟩
    case len =>
      have h : (2 : Nat) ^ 64 = 18446744073709551616 := by decide
      have := Pl.rdig_len n x 64 (by have := HN.out; omega) (by have := HXX.out; omega)
      rw [List.length_map]; omega
    rintro e w4 ⟨rfl, hrow4, hoth4, hb4, hs4⟩
    have hl4 : w4.heap[q + 1]? = some (.cells #[v] 45 (0, 0)) := (hoth4 (q + 1) (fun e => by have := (HROW.out.lt _ e.symm).1; omega)).trans HL1.out
    have hD4 : w4.heap[D]? = some (.deferred (some [])) := by
      refine (hoth4 D (fun e => ?_)).trans HK.out
      rcases HROW.out.2 with ⟨hv, _⟩ | ⟨g, cap, cur, hv, _, hg, _⟩
      · rw [hv] at e; simp [Value.ownBlock] at e
      · rw [hv] at e
        simp [Value.ownBlock] at e
        subst e
        rw [HK.out] at hg; cases hg
    have cl4 := cell_of_one hl4
    have hcv := conv_row (P := Tryz.prog) (l := ((Pl.rdig n x).map Pl.digByte).reverse) hrow4 Tryz.underlying45 Tryz.underlying5 9 Tryz.underlying9
    have HD4 := Lib.hid hD4
    have HB4 := Lib.hid hb4
    clear hrow4 hoth4 hl4 hD4 cl hb4
    gi_wp2_with fail
    refine ⟨by simp, .inl ⟨_, _, rfl, run_takeDeferred (w := w4) HD4.out, ?_⟩⟩
    refine ⟨_, results_tmp rfl _ _ _, rfl, ?_⟩
    have hu4 : Up w w4 := Below.trans HUP.out (HB4.out.mono (by omega))
    exact Below.trans hu4 (belowK_b (w := w2) (n₀ := w.heap.size) (by have := HSZ.out; omega) w4 D _ _ hD HD4.out rfl rfl)
  case stop =>
    rintro D c pre W _ h _ _
    exact h.elim
end Go.Proofs.YtckfgkmfeklcmaaGreatDoor
