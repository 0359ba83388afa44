/- The walks of utf: Encode, Decode. -/
import Derived.Test.YtckfgkmfeklcmaaGreatDoorProg
import Derived.WalkKit
import Derived.Deep.QuietTactic
import Derived.BigQuiet
import Derived.Deep.LoopGhost
import Derived.Deep.DeepCutAuto
import Derived.Deep.DeepFit
import Derived.Deep.RegionWith
import Derived.WalkSpells
import Derived.WalkLawsBesides
import Derived.IntWalk
import Derived.Lib.Hide
import Derived.KernelRfl
import Derived.Laws.BytesArg
import Derived.Maps.AppendAt
import Derived.Lib.ConvBytes
import Derived.Test.YtckfgkmfeklcmaaGreatDoorGA
set_option linter.unusedVariables false
set_option linter.unusedSimpArgs false
/- Small words that the walks of this seat share. -/
namespace Go.Proofs.YtckfgkmfeklcmaaGreatDoor
open Go.RowKit

/-- what a call has made lies above; what lay below is as it was -/
abbrev Up (w w' : World) : Prop := Below w.heap.size w w'
theorem Up.trans {a b c : World} (h : Up a b) (k : Up b c) : Up a c := Below.trans h (k.mono h.size)
theorem Up.cells {W w1 : World} (hb : Up W w1) : (∀ b o, b < W.heap.size → w1.cell? ⟨b, o, none⟩ = W.cell? ⟨b, o, none⟩) ∧ (∀ b o, b < W.heap.size → w1.frozen? ⟨b, o, none⟩ = W.frozen? ⟨b, o, none⟩) :=
  ⟨fun b o h => hb.cell (p := ⟨b, o, none⟩) h, fun b o h => hb.frozen (p := ⟨b, o, none⟩) h⟩
theorem Up.alloc {a b : World} (h : Up a b) (o : Obj) : Up a (b.alloc o) := Below.alloc h h.size o
theorem Up.self (w : World) : Up w w := Below.refl _ _
theorem Up.drew {a b : World} (h : Up a b) : Up a b.drew := Below.drew h
theorem lt_of_cell {w : World} {b o : Nat} {v : Value} (h : w.cell? ⟨b, o, none⟩ = some v) : b < w.heap.size := World.block_lt_of_cell? w _ h

/-! rows of bytes -/
def vb (l : List UInt8) : List Value := l.map fun c => .int .u8 (c.toNat : Int)
def mk (l : List UInt8) : ByteArray := ⟨l.toArray⟩
theorem mk_size (l : List UInt8) : (mk l).size = l.length := by simp [mk, ByteArray.size]
theorem mk_list (l : List UInt8) : (mk l).data.toList = l := by simp [mk]
theorem mk_toList (l : List UInt8) : (mk l).toList = l := by simp [mk]
theorem mk_of (s : ByteArray) : mk s.data.toList = s := by cases s; simp [mk]
theorem mk_app (a b : List UInt8) : mk a ++ mk b = mk (a ++ b) := ByteArray.mk_append_mk a b
theorem mk_inj {a b : List UInt8} (h : mk a = mk b) : a = b := by have := congrArg (fun s => s.data.toList) h; simpa [mk] using this
theorem vb_length (l : List UInt8) : (vb l).length = l.length := by simp [vb]
theorem vb_app (a b : List UInt8) : vb (a ++ b) = vb a ++ vb b := by simp [vb]
theorem conv_row {P : Program} {w : World} {base t e : Nat} {v : Value} {n : Nat} {l : List UInt8} (h : w.ownsRow base e 1 v n (vb l)) (hs : P.underlying t = some (.slice e)) (he : P.underlying e = some (.int .u8)) :
    ∀ dst, P.underlying dst = some .string → (convert t dst v).run P w = .ok (.string (mk l)) w := by
  intro dst hd
  have hl := h.1
  rw [vb_length, Nat.mul_one] at hl
  have h' := h
  rcases h.2 with ⟨rfl, h0⟩ | ⟨g, cap, cur, rfl, _, hb, hn, _, hc, ht⟩
  · have : l = [] := List.length_eq_zero_iff.1 (by omega)
    subst this
    exact run_convert_bytes_nil w t e hs he 0 0 dst hd
  · have := run_convert_bytes_arg (P := P) w t e hs he g 0 n cap (l.map fun c => (c.toNat : Int)) (by simp [hl]) (fun i hi => by
      have hx : (vb l)[i]? = some (.int .u8 ((l.map fun c => (c.toNat : Int)).getD i 0)) := by
        simp [vb, List.getD, show i < l.length by omega]
      have := h'.cells (g := g) rfl i _ hx
      rw [← this]
      congr 1
      unfold Addr.add
      split <;> simp_all) dst hd
    rw [this]
    have e : strOfNums (l.map fun c => (c.toNat : Int)) = mk l := by
      simp only [strOfNums, mk, List.map_map]
      congr 2
      conv => rhs; rw [← List.map_id l]
      apply List.map_congr_left
      intro c _
      simp
    rw [e]
/-- a row that has just been laid -/
theorem own_new (w : World) (base e size k : Nat) (cur : Array Value) (hb : base ≤ w.heap.size) (hk : cur.size = k * size) (hm : k ≤ maxLen) :
    (w.alloc (.cells cur e)).ownsRow base e size (.slice (some ⟨w.heap.size, 0, none⟩) k k) k cur.toList := by
  refine ⟨by simpa using hk, .inr ⟨w.heap.size, k, cur, rfl, hb, (by show (w.heap.push _)[w.heap.size]? = _; simp), Nat.le_refl _, hm, hk, ?_⟩⟩
  rw [← hk, ← Array.length_toList, List.take_length]
theorem Up.appended {w wr w2 : World} {e size n : Nat} {v : Value} {xs : List Value} (h : Up w wr) (o : Obj) (hown : wr.ownsRow w.heap.size e size v n xs) (hg : (wr.alloc o).grownBy w2 v.ownBlock) : Up w w2 :=
  Below.grown (h.alloc o) hg (Nat.le_trans h.size (by simp)) (fun k hk => (hown.lt k hk).1)
theorem rounds_go {P : Program} {c : Code} {Q : Exit → Act → World → Prop} {n : Nat} {a : Act} {w : World} (h : c.wp P (Exit.then (Code.rounds P c Q n) Q) a w) : Code.rounds P c Q (n + 1) a w := h
theorem bytes_up (w : World) (e : TypeId) (s : ByteArray) : Up w (Lib.bytesWorld w e s) :=
  ⟨rfl, rfl, rfl, by rw [Lib.bytesWorld_size]; omega, fun i hi => Lib.bytesWorld_at_old w e s i hi⟩
theorem conv_bytes {P : Program} (w : World) (src dst e : TypeId) (l : List UInt8) (hs : P.underlying src = some .string) (hd : P.underlying dst = some (.slice e)) (he : P.underlying e = some (.int .u8)) :
    ∃ cap W, (convert src dst (.string (mk l))).run P w = .ok (.slice (some ⟨w.heap.size, 0, none⟩) l.length cap) W ∧ Up w W ∧ W.heap.size = w.heap.size + 1 ∧
      ∀ j, j < l.length → W.cell? ⟨w.heap.size, j, none⟩ = some (.int .u8 ((l.getD j 0).toNat : Int)) := by
  refine ⟨_, Lib.bytesWorld w e (mk l), by rw [Lib.run_convert_string_bytes w src dst e (mk l) hs hd he, mk_size], bytes_up w e _, Lib.bytesWorld_size w e _, fun j hj => ?_⟩
  have := Lib.bytesWorld_cell w e (mk l) j (by rw [mk_size]; exact hj)
  rw [mk_list] at this
  exact this
theorem mk_cut (l : List UInt8) (a b : Nat) : (mk l).extract a b = mk ((l.take b).drop a) := by
  apply ByteArray.ext
  apply Array.ext'
  simp [mk, ByteArray.data_extract, List.drop_take]
theorem heap_new {w : World} {o : Obj} {k : Nat} (h : k = w.heap.size) : (w.alloc o).heap[k]? = some o := by
  subst h
  show (w.heap.push _)[w.heap.size]? = _
  simp
end Go.Proofs.YtckfgkmfeklcmaaGreatDoor

namespace Go.Proofs.YtckfgkmfeklcmaaGreatDoor
open Go.RowKit

def spanHas (r : Int) (x : Int × Int) : Bool := decide (x.1 ≤ r) && decide (r ≤ x.2)
/-- a row of spans in a block -/
def Spans (w : World) (b : Nat) (xs : List (Int × Int)) : Prop :=
  b < w.heap.size ∧ ∀ j, j < xs.length → (w.cell? ⟨b, j * 2, none⟩ = some (.int .i32 (xs.getD j (0, 0)).1) ∧ w.cell? ⟨b, j * 2 + 1, none⟩ = some (.int .i32 (xs.getD j (0, 0)).2)) ∧
    -2147483648 ≤ (xs.getD j (0, 0)).1 ∧ (xs.getD j (0, 0)).1 ≤ 2147483647 ∧ -2147483648 ≤ (xs.getD j (0, 0)).2 ∧ (xs.getD j (0, 0)).2 ≤ 2147483647
theorem Spans.up {w w' : World} {b : Nat} {xs : List (Int × Int)} (h : Spans w b xs) (u : Up w w') : Spans w' b xs :=
  ⟨Nat.lt_of_lt_of_le h.1 u.size, fun j hj => ⟨⟨(u.cell (p := ⟨b, j * 2, none⟩) h.1).trans (h.2 j hj).1.1, (u.cell (p := ⟨b, j * 2 + 1, none⟩) h.1).trans (h.2 j hj).1.2⟩, (h.2 j hj).2⟩⟩

set_option maxHeartbeats 400000 in
theorem isIn1_any (a b r : Int) (br o : Nat) (w : World) (ha : -2147483648 ≤ a) (ha' : a ≤ 2147483647) (hb0 : -2147483648 ≤ b) (hb' : b ≤ 2147483647) (hb : br < w.heap.size) (hr : w.cell? ⟨br, o, none⟩ = some (.int .i64 r)) :
    Calls Tryz.prog 127 #[.agg #[.int .i32 a, .int .i32 b], .pointer (some ⟨br, o, none⟩)] w fun e w' => e = .returned (.bool (spanHas r (a, b))) ∧ Up w w' := by
  go_enter Tryz.func127, Tryz.ntmps127
  go_wp2
  all_goals go_ret
  all_goals refine ⟨?_, (Up.self w).alloc _⟩
  · have h : a ≤ r := by assumption
    simp [spanHas, h]
  · have h : r < a := by assumption
    have : ¬ a ≤ r := by omega
    simp [spanHas, this]

def idxIn (r : Int) (xs : List (Int × Int)) : Int := match xs.findIdx? (spanHas r) with | some i => i | none => -1
theorem idxIn_at {r : Int} {xs : List (Int × Int)} {k : Nat} (hlt : k < xs.length) (hno : ∀ j, j < k → spanHas r (xs.getD j (0, 0)) = false) (hy : spanHas r (xs.getD k (0, 0)) = true) : idxIn r xs = k := by
  have : xs.findIdx? (spanHas r) = some k := by
    rw [List.findIdx?_eq_some_iff_getElem]
    refine ⟨hlt, by simpa [List.getD, hlt] using hy, fun j hj => ?_⟩
    have := hno j hj
    simpa [List.getD, show j < xs.length by omega] using this
  simp [idxIn, this]
theorem idxIn_none {r : Int} {xs : List (Int × Int)} (hno : ∀ j, j < xs.length → spanHas r (xs.getD j (0, 0)) = false) : idxIn r xs = -1 := by
  have : xs.findIdx? (spanHas r) = none := by
    rw [List.findIdx?_eq_none_iff]
    intro x hx
    obtain ⟨j, hj, rfl⟩ := List.getElem_of_mem hx
    have := hno j hj
    simpa [List.getD, hj] using this
  simp [idxIn, this]
theorem ret_i64 {a b : Int} (h : a = b) : Ending.returned (Value.int .i64 a) = .returned (.int .i64 b) := by rw [h]

set_option maxHeartbeats 400000 in
theorem spanIndex_any (r : Int) (xs : List (Int × Int)) (b br c : Nat) (w : World) (hbr : br < w.heap.size) (hr : w.cell? ⟨br, 0, none⟩ = some (.int .i64 r)) (hn : xs.length ≤ 1000) (hx : Spans w b xs) :
    Calls Tryz.prog 150 #[.slice (some ⟨b, 0, none⟩) xs.length c, .func (.func 127) #[] #[.pointer (some ⟨br, 0, none⟩)]] w fun e w' => e = .returned (.int .i64 (idxIn r xs)) ∧ Up w w' := by
  have hX := Lib.hid hx
  clear hx
  go_enter Tryz.func150, Tryz.ntmps150
  go_wp2
  go_loopw [8] (fun i wr => ∃ k : Nat, k ≤ xs.length ∧ i = .int .i64 k ∧ Up w wr ∧ ∀ j, j < k → spanHas r (xs.getD j (0, 0)) = false) (fun i _ => xs.length - (intOf i).toNat)
  case atStart => exact ⟨0, Nat.zero_le _, rfl, Up.self w, fun j h => absurd h (Nat.not_lt_zero _)⟩
  case round =>
    obtain ⟨k, hk, rfl, hup, hno⟩ := hrel
    have HNO := Lib.hid hno
    clear hno
    by_cases hlt : k < xs.length
    · obtain ⟨⟨hc1, hc2⟩, hb1, hb2, hb3, hb4⟩ := hX.out.2 k hlt
      have hbl := hX.out.1
      have e1 := (hup.cell (p := ⟨b, k * 2, none⟩) hbl).trans hc1
      have e2 := (hup.cell (p := ⟨b, k * 2 + 1, none⟩) hbl).trans hc2
      have e3 := (hup.cell (p := ⟨br, 0, none⟩) hbr).trans hr
      have hbr' : br < wr.heap.size := Nat.lt_of_lt_of_le hbr hup.size
      clear hc1 hc2 hr
      obtain ⟨x, hxx⟩ : ∃ x, x = xs.getD k (0, 0) := ⟨_, rfl⟩
      rw [← hxx] at e1 e2 hb1 hb2 hb3 hb4
      have HX := Lib.hid hxx
      clear hxx
      obtain ⟨x1, x2⟩ := x
      simp only at e1 e2 hb1 hb2 hb3 hb4
      cases hp : spanHas r (x1, x2)
      all_goals
        have HP := Lib.hid hp
        clear hp
        go_wp2_with fail
        refine (isIn1_any x1 x2 r br 0 _ hb1 hb2 hb3 hb4 hbr' e3).mono ?_
        rintro e w1 ⟨rfl, hu1⟩
        rw [HP.out]
        clear e1 e2 e3
        go_wp2
      · go_roundw
        case rel =>
          refine ⟨k + 1, by omega, by go_num, hup.trans hu1, fun j hj => ?_⟩
          by_cases e : j = k
          · rw [e, ← HX.out]; exact HP.out
          · exact HNO.out j (by omega)
        case measure => simp [intOf]; omega
      · go_ret
        exact ⟨ret_i64 (idxIn_at hlt HNO.out (by rw [← HX.out]; exact HP.out)).symm, hup.trans hu1⟩
    · go_wp2
      go_ret
      have : k = xs.length := by omega
      subst this
      exact ⟨ret_i64 (idxIn_none HNO.out).symm, hup⟩

theorem idxIn_any (r : Int) (xs : List (Int × Int)) : decide (0 ≤ idxIn r xs) = xs.any (spanHas r) := by
  unfold idxIn
  cases h : xs.findIdx? (spanHas r) with
  | none =>
    rw [List.findIdx?_eq_none_iff] at h
    have : xs.any (spanHas r) = false := by rw [List.any_eq_false]; intro x hx; simp [h x hx]
    rw [this]; rfl
  | some i =>
    rw [List.findIdx?_eq_some_iff_getElem] at h
    obtain ⟨hi, hy, _⟩ := h
    have : xs.any (spanHas r) = true := List.any_eq_true.2 ⟨_, List.getElem_mem hi, hy⟩
    rw [this]; simp

set_option maxHeartbeats 400000 in
theorem spanContains_any (r : Int) (xs : List (Int × Int)) (b br c : Nat) (w : World) (hbr : br < w.heap.size) (hr : w.cell? ⟨br, 0, none⟩ = some (.int .i64 r)) (hn : xs.length ≤ 1000) (hx : Spans w b xs) :
    Calls Tryz.prog 126 #[.slice (some ⟨b, 0, none⟩) xs.length c, .func (.func 127) #[] #[.pointer (some ⟨br, 0, none⟩)]] w fun e w' => e = .returned (.bool (xs.any (spanHas r))) ∧ Up w w' := by
  have hX := Lib.hid hx
  clear hx
  go_enter Tryz.func126, Tryz.ntmps126
  go_wp2_with fail
  refine (spanIndex_any r xs b br c _ hbr hr hn hX.out).mono ?_
  rintro e w1 ⟨rfl, hu1⟩
  go_wp2
  go_ret
  exact ⟨by rw [← idxIn_any]; rfl, hu1⟩

set_option maxHeartbeats 400000 in
theorem isIn_any (r : Int) (xs : List (Int × Int)) (b c : Nat) (w : World) (hn : xs.length ≤ 1000) (hx : Spans w b xs) :
    Calls Tryz.prog 102 #[.int .i64 r, .slice (some ⟨b, 0, none⟩) xs.length c] w fun e w' => e = .returned (.bool (xs.any (spanHas r))) ∧ Up w w' := by
  have hX := Lib.hid (hx.up ((Up.self w).alloc (.cells #[.int .i64 r] 3)))
  clear hx
  go_enter Tryz.func102, Tryz.ntmps102
  go_wp2_with fail
  refine (spanContains_any r xs b w.heap.size c _ (by simp) (by simp) hn hX.out).mono ?_
  rintro e w1 ⟨rfl, hu1⟩
  go_wp2
  go_ret
  exact ⟨rfl, ((Up.self w).alloc _).trans hu1⟩
end Go.Proofs.YtckfgkmfeklcmaaGreatDoor

namespace Go.Proofs.YtckfgkmfeklcmaaGreatDoor
open Go.RowKit

def runeI (r : Int) : Bool := spanHas r (0, 55295) || spanHas r (57344, 1114111)
theorem runeI_iff (r : Int) : runeI r = true ↔ (0 ≤ r ∧ r ≤ 55295) ∨ (57344 ≤ r ∧ r ≤ 1114111) := by simp [runeI, spanHas]

set_option maxHeartbeats 400000 in
theorem isRune_any (r : Int) (w : World) :
    Calls Tryz.prog 149 #[.int .i64 r] w fun e w' => e = .returned (.bool (runeI r)) ∧ Up w w' := by
  have hX : Spans (w.alloc (.cells #[.int .i32 0, .int .i32 55295, .int .i32 57344, .int .i32 1114111] 213)) w.heap.size [(0, 55295), (57344, 1114111)] := by
    refine ⟨by simp, fun j hj => ?_⟩
    match j, hj with
    | 0, _ => exact ⟨⟨by simp, by simp⟩, by decide⟩
    | 1, _ => exact ⟨⟨by simp, by simp⟩, by decide⟩
  have HX := Lib.hid hX
  clear hX
  go_enter Tryz.func149, Tryz.ntmps149
  go_wp2_with fail
  refine (isIn_any r [(0, 55295), (57344, 1114111)] w.heap.size 2 _ (by decide) HX.out).mono ?_
  rintro e w1 ⟨rfl, hu1⟩
  go_wp2
  go_ret
  exact ⟨by simp [runeI], ((Up.self w).alloc _).trans hu1⟩

theorem Tryz.info5 : (Tryz.prog.info? 5).map (fun i => (i.zero, i.size, i.bytes)) = some (some (.int .u8 0), 1, 1) := by kernel_rfl

/-! bytes of a rune, as the loop makes them -/
def tailB (r : Nat) (m : Nat) : UInt8 := (128 + r / 64 ^ m % 64).toUInt8
def firstB (M : Nat) (r : Nat) : UInt8 := (match M with | 0 => r | 1 => 192 + r / 64 | 2 => 224 + r / 4096 | _ => 240 + r / 262144).toUInt8
def partB (M : Nat) (r : Nat) : Nat → List UInt8   -- how many are left
  | m => firstB M r :: ((List.range (M - m)).map fun i => tailB r (M - 1 - i))
theorem partB_step (M r m : Nat) (h : m < M) : partB M r m = partB M r (m + 1) ++ [tailB r m] := by
  simp only [partB]
  rw [show M - m = (M - (m + 1)) + 1 by omega, List.range_succ, List.map_append, List.map_singleton, List.cons_append]
  rw [show M - 1 - (M - (m + 1)) = m by omega]
theorem partB_len (M r m : Nat) : (partB M r m).length = M - m + 1 := by simp [partB]
theorem partB_top (M r : Nat) : partB M r M = [firstB M r] := by simp [partB]
theorem partB_enc (M r : Nat) (h : M = if r < 128 then 0 else if r < 2048 then 1 else if r < 65536 then 2 else 3) : partB M r 0 = Pl.enc r := by
  unfold Pl.enc
  split at h
  · rename_i h1; subst h; rw [if_pos h1]; rfl
  · split at h
    · rename_i h1 h2; subst h; rw [if_neg h1, if_pos h2]; simp [partB, firstB, tailB, List.range_succ]
    · split at h
      · rename_i h1 h2 h3; subst h; rw [if_neg h1, if_neg h2, if_pos h3]; simp [partB, firstB, tailB, List.range_succ]
      · rename_i h1 h2 h3; subst h; rw [if_neg h1, if_neg h2, if_neg h3]; simp [partB, firstB, tailB, List.range_succ]
theorem tailB_val (r m : Nat) : ((tailB r m).toNat : Int) = 128 + (r : Int) / (64 ^ m : Nat) % 64 := by
  unfold tailB
  rw [Pl.u8 _ (by omega)]
  simp
theorem or128 (y : Int) (h0 : 0 ≤ y) (h1 : y < 64) : bits .or .i64 128 y = 128 + y := by
  obtain ⟨n, rfl⟩ := Int.eq_ofNat_of_zero_le h0
  have : ∀ n : Fin 64, bits .or .i64 128 (n.val : Int) = 128 + (n.val : Int) := by decide +kernel
  exact this ⟨n, by omega⟩
theorem or240 (y : Int) (h0 : 0 ≤ y) (h1 : y < 8) : bits .or .i64 240 y = 240 + y := by
  obtain ⟨n, rfl⟩ := Int.eq_ofNat_of_zero_le h0
  have : ∀ n : Fin 8, bits .or .i64 240 (n.val : Int) = 240 + (n.val : Int) := by decide +kernel
  exact this ⟨n, by omega⟩
theorem or224 (y : Int) (h0 : 0 ≤ y) (h1 : y < 16) : bits .or .i64 224 y = 224 + y := by
  obtain ⟨n, rfl⟩ := Int.eq_ofNat_of_zero_le h0
  have : ∀ n : Fin 16, bits .or .i64 224 (n.val : Int) = 224 + (n.val : Int) := by decide +kernel
  exact this ⟨n, by omega⟩
theorem or192 (y : Int) (h0 : 0 ≤ y) (h1 : y < 32) : bits .or .i64 192 y = 192 + y := by
  obtain ⟨n, rfl⟩ := Int.eq_ofNat_of_zero_le h0
  have : ∀ n : Fin 32, bits .or .i64 192 (n.val : Int) = 192 + (n.val : Int) := by decide +kernel
  exact this ⟨n, by omega⟩

theorem and63 (y : Int) (h0 : 0 ≤ y) (h1 : y ≤ 1114111) : bits .and .i64 y 63 = y % 64 :=
  bits_mask .i64 32 (by decide) (fun n h0 h1 => by rw [IntKind.wrap_i64]; omega) 6 (by decide) y h0 (by omega)
theorem or0 (y : Int) (h0 : 0 ≤ y) (h1 : y < 128) : bits .or .i64 0 y = y := by
  obtain ⟨n, rfl⟩ := Int.eq_ofNat_of_zero_le h0
  have : ∀ n : Fin 128, bits .or .i64 0 (n.val : Int) = (n.val : Int) := by decide +kernel
  exact this ⟨n, by omega⟩

set_option maxRecDepth 100000 in
set_option maxHeartbeats 1000000 in
theorem enc_big (r : Int) (w : World) (h0 : 65536 ≤ r) (h1 : r ≤ 1114111) (hR : runeI r = true) :
    Calls Tryz.prog 125 #[.int .i64 r] w fun e w' => e = .returned (.tuple #[.string (mk (Pl.enc r.toNat)), .int .i64 0]) ∧ Up w w' := by
  obtain ⟨i0, hi, hz0, hz1, hz2⟩ := info_parts Tryz.info5
  have HR := Lib.hid hR
  clear hR
  have HF := Lib.hid (show bits BinOp.or IntKind.i64 240 (r / 262144) % 256 = ((firstB 3 r.toNat).toNat : Int) by
    rw [or240 _ (by omega) (by omega), show firstB 3 r.toNat = (240 + r.toNat / 262144).toUInt8 from rfl, Pl.u8 _ (by omega)]; omega)
  have HT0 := Lib.hid (show bits BinOp.or IntKind.i64 128 (bits BinOp.and IntKind.i64 (r) 63) % 256 = ((tailB r.toNat 0).toNat : Int) by
    rw [and63 _ (by omega) (by omega), or128 _ (by omega) (by omega), tailB_val]; omega)
  have HT1 := Lib.hid (show bits BinOp.or IntKind.i64 128 (bits BinOp.and IntKind.i64 (r / 64) 63) % 256 = ((tailB r.toNat 1).toNat : Int) by
    rw [and63 _ (by omega) (by omega), or128 _ (by omega) (by omega), tailB_val]; omega)
  have HT2 := Lib.hid (show bits BinOp.or IntKind.i64 128 (bits BinOp.and IntKind.i64 (r / 4096) 63) % 256 = ((tailB r.toNat 2).toNat : Int) by
    rw [and63 _ (by omega) (by omega), or128 _ (by omega) (by omega), tailB_val]; omega)
  have HE := Lib.hid (partB_enc 3 r.toNat (by (repeat' split) <;> omega))
  go_enter Tryz.func125, Tryz.ntmps125
  go_wp2_with fail
  refine (isRune_any r _).mono ?_
  rintro e w1 ⟨rfl, hu1⟩
  rw [HR.out]
  go_wp2
  go_loopw [5, 6] (fun s v wr => ∃ m : Nat, m ≤ 3 ∧ s = .int .i64 (6 * (m : Int)) ∧ wr.ownsRow w.heap.size 5 1 v (partB 3 r.toNat m).length (vb (partB 3 r.toNat m)) ∧ Up w wr) (fun s _ _ => (intOf s).toNat)
  case atStart =>
    refine ⟨3, by omega, rfl, ?_, hu1.alloc _⟩
    have e : vb (partB 3 r.toNat 3) = [Value.int .u8 (bits BinOp.or IntKind.i64 240 (r / 262144) % 256)] := by rw [partB_top, HF.out]; rfl
    rw [e]
    exact own_new w1 _ _ 1 1 #[_] hu1.size rfl (by decide)
  case round =>
    obtain ⟨m, hm, hs, hown, hup⟩ := hrel
    have HO := Lib.hid hown
    have HU := Lib.hid hup
    clear hown hup HF HR hu1
    match m, hm with
    | 0, _ =>
      have hs' : _ = Value.int .i64 0 := hs
      subst hs'
      have hc := conv_row HO.out Tryz.underlying45 Tryz.underlying5
      go_wp2
      go_ret2
      exact ⟨congrArg (fun l => Ending.returned (Value.tuple #[Value.string (mk l), Value.int .i64 0])) HE.out, HU.out⟩
    | 1, _ =>
      have hs' : _ = Value.int .i64 6 := hs
      subst hs'
      go_wp2_with (at_builtin; go_must (refine wpList_append_own _ rfl _ _ 45 rfl w.heap.size 5 i0 (.int .u8 0) 1 1 Tryz.underlying45 hi hz0 hz1 hz2 rfl (by decide) _ _ _ rfl (HO.out.alloc _) ⟨_, 0, none⟩ 1 1 [_] rfl rfl (cell_one_new _ _ _) (by simp [Value.oneCell']) (by rw [partB_len]; unfold maxLen; omega) (by rw [partB_len]; omega) (by have := HU.out.size; simp at this ⊢; omega) ?_); intro v2 w2 hown2 hg2 _; have HU2 := Lib.hid (HU.out.appended _ HO.out hg2); clear HU hg2; have HO2 := Lib.hid hown2; clear HO hown2)
      go_roundw
      case rel =>
        refine ⟨0, by omega, by rfl, ?_, HU2.out⟩
        have h2 := HO2.out
        rw [HT0.out] at h2
        rw [partB_step 3 r.toNat 0 (by omega), vb_app, List.length_append]
        exact h2
      case measure => simp [intOf]
    | 2, _ =>
      have hs' : _ = Value.int .i64 12 := hs
      subst hs'
      go_wp2_with (at_builtin; go_must (refine wpList_append_own _ rfl _ _ 45 rfl w.heap.size 5 i0 (.int .u8 0) 1 1 Tryz.underlying45 hi hz0 hz1 hz2 rfl (by decide) _ _ _ rfl (HO.out.alloc _) ⟨_, 0, none⟩ 1 1 [_] rfl rfl (cell_one_new _ _ _) (by simp [Value.oneCell']) (by rw [partB_len]; unfold maxLen; omega) (by rw [partB_len]; omega) (by have := HU.out.size; simp at this ⊢; omega) ?_); intro v2 w2 hown2 hg2 _; have HU2 := Lib.hid (HU.out.appended _ HO.out hg2); clear HU hg2; have HO2 := Lib.hid hown2; clear HO hown2)
      go_roundw
      case rel =>
        refine ⟨1, by omega, by rfl, ?_, HU2.out⟩
        have h2 := HO2.out
        rw [HT1.out] at h2
        rw [partB_step 3 r.toNat 1 (by omega), vb_app, List.length_append]
        exact h2
      case measure => simp [intOf]
    | 3, _ =>
      have hs' : _ = Value.int .i64 18 := hs
      subst hs'
      go_wp2_with (at_builtin; go_must (refine wpList_append_own _ rfl _ _ 45 rfl w.heap.size 5 i0 (.int .u8 0) 1 1 Tryz.underlying45 hi hz0 hz1 hz2 rfl (by decide) _ _ _ rfl (HO.out.alloc _) ⟨_, 0, none⟩ 1 1 [_] rfl rfl (cell_one_new _ _ _) (by simp [Value.oneCell']) (by rw [partB_len]; unfold maxLen; omega) (by rw [partB_len]; omega) (by have := HU.out.size; simp at this ⊢; omega) ?_); intro v2 w2 hown2 hg2 _; have HU2 := Lib.hid (HU.out.appended _ HO.out hg2); clear HU hg2; have HO2 := Lib.hid hown2; clear HO hown2)
      go_roundw
      case rel =>
        refine ⟨2, by omega, by rfl, ?_, HU2.out⟩
        have h2 := HO2.out
        rw [HT2.out] at h2
        rw [partB_step 3 r.toNat 2 (by omega), vb_app, List.length_append]
        exact h2
      case measure => simp [intOf]
    | n + 4, h => exact absurd h (by omega)

set_option maxRecDepth 100000 in
set_option maxHeartbeats 1000000 in
theorem enc_three (r : Int) (w : World) (h0 : 2048 ≤ r) (h1 : r ≤ 65535) (hR : runeI r = true) :
    Calls Tryz.prog 125 #[.int .i64 r] w fun e w' => e = .returned (.tuple #[.string (mk (Pl.enc r.toNat)), .int .i64 0]) ∧ Up w w' := by
  obtain ⟨i0, hi, hz0, hz1, hz2⟩ := info_parts Tryz.info5
  have HR := Lib.hid hR
  clear hR
  have HF := Lib.hid (show bits BinOp.or IntKind.i64 224 (r / 4096) % 256 = ((firstB 2 r.toNat).toNat : Int) by
    rw [or224 _ (by omega) (by omega), show firstB 2 r.toNat = (224 + r.toNat / 4096).toUInt8 from rfl, Pl.u8 _ (by omega)]; omega)
  have HT0 := Lib.hid (show bits BinOp.or IntKind.i64 128 (bits BinOp.and IntKind.i64 (r) 63) % 256 = ((tailB r.toNat 0).toNat : Int) by
    rw [and63 _ (by omega) (by omega), or128 _ (by omega) (by omega), tailB_val]; omega)
  have HT1 := Lib.hid (show bits BinOp.or IntKind.i64 128 (bits BinOp.and IntKind.i64 (r / 64) 63) % 256 = ((tailB r.toNat 1).toNat : Int) by
    rw [and63 _ (by omega) (by omega), or128 _ (by omega) (by omega), tailB_val]; omega)
  have HE := Lib.hid (partB_enc 2 r.toNat (by (repeat' split) <;> omega))
  go_enter Tryz.func125, Tryz.ntmps125
  go_wp2_with fail
  refine (isRune_any r _).mono ?_
  rintro e w1 ⟨rfl, hu1⟩
  rw [HR.out]
  go_wp2
  go_loopw [5, 6] (fun s v wr => ∃ m : Nat, m ≤ 2 ∧ s = .int .i64 (6 * (m : Int)) ∧ wr.ownsRow w.heap.size 5 1 v (partB 2 r.toNat m).length (vb (partB 2 r.toNat m)) ∧ Up w wr) (fun s _ _ => (intOf s).toNat)
  case atStart =>
    refine ⟨2, by omega, rfl, ?_, hu1.alloc _⟩
    have e : vb (partB 2 r.toNat 2) = [Value.int .u8 (bits BinOp.or IntKind.i64 224 (r / 4096) % 256)] := by rw [partB_top, HF.out]; rfl
    rw [e]
    exact own_new w1 _ _ 1 1 #[_] hu1.size rfl (by decide)
  case round =>
    obtain ⟨m, hm, hs, hown, hup⟩ := hrel
    have HO := Lib.hid hown
    have HU := Lib.hid hup
    clear hown hup HF HR hu1
    match m, hm with
    | 0, _ =>
      have hs' : _ = Value.int .i64 0 := hs
      subst hs'
      have hc := conv_row HO.out Tryz.underlying45 Tryz.underlying5
      go_wp2
      go_ret2
      exact ⟨congrArg (fun l => Ending.returned (Value.tuple #[Value.string (mk l), Value.int .i64 0])) HE.out, HU.out⟩
    | 1, _ =>
      have hs' : _ = Value.int .i64 6 := hs
      subst hs'
      go_wp2_with (at_builtin; go_must (refine wpList_append_own _ rfl _ _ 45 rfl w.heap.size 5 i0 (.int .u8 0) 1 1 Tryz.underlying45 hi hz0 hz1 hz2 rfl (by decide) _ _ _ rfl (HO.out.alloc _) ⟨_, 0, none⟩ 1 1 [_] rfl rfl (cell_one_new _ _ _) (by simp [Value.oneCell']) (by rw [partB_len]; unfold maxLen; omega) (by rw [partB_len]; omega) (by have := HU.out.size; simp at this ⊢; omega) ?_); intro v2 w2 hown2 hg2 _; have HU2 := Lib.hid (HU.out.appended _ HO.out hg2); clear HU hg2; have HO2 := Lib.hid hown2; clear HO hown2)
      go_roundw
      case rel =>
        refine ⟨0, by omega, by rfl, ?_, HU2.out⟩
        have h2 := HO2.out
        rw [HT0.out] at h2
        rw [partB_step 2 r.toNat 0 (by omega), vb_app, List.length_append]
        exact h2
      case measure => simp [intOf]
    | 2, _ =>
      have hs' : _ = Value.int .i64 12 := hs
      subst hs'
      go_wp2_with (at_builtin; go_must (refine wpList_append_own _ rfl _ _ 45 rfl w.heap.size 5 i0 (.int .u8 0) 1 1 Tryz.underlying45 hi hz0 hz1 hz2 rfl (by decide) _ _ _ rfl (HO.out.alloc _) ⟨_, 0, none⟩ 1 1 [_] rfl rfl (cell_one_new _ _ _) (by simp [Value.oneCell']) (by rw [partB_len]; unfold maxLen; omega) (by rw [partB_len]; omega) (by have := HU.out.size; simp at this ⊢; omega) ?_); intro v2 w2 hown2 hg2 _; have HU2 := Lib.hid (HU.out.appended _ HO.out hg2); clear HU hg2; have HO2 := Lib.hid hown2; clear HO hown2)
      go_roundw
      case rel =>
        refine ⟨1, by omega, by rfl, ?_, HU2.out⟩
        have h2 := HO2.out
        rw [HT1.out] at h2
        rw [partB_step 2 r.toNat 1 (by omega), vb_app, List.length_append]
        exact h2
      case measure => simp [intOf]
    | n + 3, h => exact absurd h (by omega)

set_option maxRecDepth 100000 in
set_option maxHeartbeats 1000000 in
theorem enc_two (r : Int) (w : World) (h0 : 128 ≤ r) (h1 : r ≤ 2047) (hR : runeI r = true) :
    Calls Tryz.prog 125 #[.int .i64 r] w fun e w' => e = .returned (.tuple #[.string (mk (Pl.enc r.toNat)), .int .i64 0]) ∧ Up w w' := by
  obtain ⟨i0, hi, hz0, hz1, hz2⟩ := info_parts Tryz.info5
  have HR := Lib.hid hR
  clear hR
  have HF := Lib.hid (show bits BinOp.or IntKind.i64 192 (r / 64) % 256 = ((firstB 1 r.toNat).toNat : Int) by
    rw [or192 _ (by omega) (by omega), show firstB 1 r.toNat = (192 + r.toNat / 64).toUInt8 from rfl, Pl.u8 _ (by omega)]; omega)
  have HT0 := Lib.hid (show bits BinOp.or IntKind.i64 128 (bits BinOp.and IntKind.i64 (r) 63) % 256 = ((tailB r.toNat 0).toNat : Int) by
    rw [and63 _ (by omega) (by omega), or128 _ (by omega) (by omega), tailB_val]; omega)
  have HE := Lib.hid (partB_enc 1 r.toNat (by (repeat' split) <;> omega))
  go_enter Tryz.func125, Tryz.ntmps125
  go_wp2_with fail
  refine (isRune_any r _).mono ?_
  rintro e w1 ⟨rfl, hu1⟩
  rw [HR.out]
  go_wp2
  go_loopw [5, 6] (fun s v wr => ∃ m : Nat, m ≤ 1 ∧ s = .int .i64 (6 * (m : Int)) ∧ wr.ownsRow w.heap.size 5 1 v (partB 1 r.toNat m).length (vb (partB 1 r.toNat m)) ∧ Up w wr) (fun s _ _ => (intOf s).toNat)
  case atStart =>
    refine ⟨1, by omega, rfl, ?_, hu1.alloc _⟩
    have e : vb (partB 1 r.toNat 1) = [Value.int .u8 (bits BinOp.or IntKind.i64 192 (r / 64) % 256)] := by rw [partB_top, HF.out]; rfl
    rw [e]
    exact own_new w1 _ _ 1 1 #[_] hu1.size rfl (by decide)
  case round =>
    obtain ⟨m, hm, hs, hown, hup⟩ := hrel
    have HO := Lib.hid hown
    have HU := Lib.hid hup
    clear hown hup HF HR hu1
    match m, hm with
    | 0, _ =>
      have hs' : _ = Value.int .i64 0 := hs
      subst hs'
      have hc := conv_row HO.out Tryz.underlying45 Tryz.underlying5
      go_wp2
      go_ret2
      exact ⟨congrArg (fun l => Ending.returned (Value.tuple #[Value.string (mk l), Value.int .i64 0])) HE.out, HU.out⟩
    | 1, _ =>
      have hs' : _ = Value.int .i64 6 := hs
      subst hs'
      go_wp2_with (at_builtin; go_must (refine wpList_append_own _ rfl _ _ 45 rfl w.heap.size 5 i0 (.int .u8 0) 1 1 Tryz.underlying45 hi hz0 hz1 hz2 rfl (by decide) _ _ _ rfl (HO.out.alloc _) ⟨_, 0, none⟩ 1 1 [_] rfl rfl (cell_one_new _ _ _) (by simp [Value.oneCell']) (by rw [partB_len]; unfold maxLen; omega) (by rw [partB_len]; omega) (by have := HU.out.size; simp at this ⊢; omega) ?_); intro v2 w2 hown2 hg2 _; have HU2 := Lib.hid (HU.out.appended _ HO.out hg2); clear HU hg2; have HO2 := Lib.hid hown2; clear HO hown2)
      go_roundw
      case rel =>
        refine ⟨0, by omega, by rfl, ?_, HU2.out⟩
        have h2 := HO2.out
        rw [HT0.out] at h2
        rw [partB_step 1 r.toNat 0 (by omega), vb_app, List.length_append]
        exact h2
      case measure => simp [intOf]
    | n + 2, h => exact absurd h (by omega)

set_option maxRecDepth 100000 in
set_option maxHeartbeats 1000000 in
theorem enc_one (r : Int) (w : World) (h0 : 0 ≤ r) (h1 : r ≤ 127) (hR : runeI r = true) :
    Calls Tryz.prog 125 #[.int .i64 r] w fun e w' => e = .returned (.tuple #[.string (mk (Pl.enc r.toNat)), .int .i64 0]) ∧ Up w w' := by
  obtain ⟨i0, hi, hz0, hz1, hz2⟩ := info_parts Tryz.info5
  have HR := Lib.hid hR
  clear hR
  have HF := Lib.hid (show bits BinOp.or IntKind.i64 0 r % 256 = ((firstB 0 r.toNat).toNat : Int) by
    rw [or0 _ (by omega) (by omega), show firstB 0 r.toNat = (r.toNat).toUInt8 from rfl, Pl.u8 _ (by omega)]; omega)
  have HE := Lib.hid (partB_enc 0 r.toNat (by (repeat' split) <;> omega))
  go_enter Tryz.func125, Tryz.ntmps125
  go_wp2_with fail
  refine (isRune_any r _).mono ?_
  rintro e w1 ⟨rfl, hu1⟩
  rw [HR.out]
  go_wp2
  go_loopw [5, 6] (fun s v wr => ∃ m : Nat, m ≤ 0 ∧ s = .int .i64 (6 * (m : Int)) ∧ wr.ownsRow w.heap.size 5 1 v (partB 0 r.toNat m).length (vb (partB 0 r.toNat m)) ∧ Up w wr) (fun s _ _ => (intOf s).toNat)
  case atStart =>
    refine ⟨0, by omega, rfl, ?_, hu1.alloc _⟩
    have e : vb (partB 0 r.toNat 0) = [Value.int .u8 (bits BinOp.or IntKind.i64 0 r % 256)] := by rw [partB_top, HF.out]; rfl
    rw [e]
    exact own_new w1 _ _ 1 1 #[_] hu1.size rfl (by decide)
  case round =>
    obtain ⟨m, hm, hs, hown, hup⟩ := hrel
    have HO := Lib.hid hown
    have HU := Lib.hid hup
    clear hown hup HF HR hu1
    match m, hm with
    | 0, _ =>
      have hs' : _ = Value.int .i64 0 := hs
      subst hs'
      have hc := conv_row HO.out Tryz.underlying45 Tryz.underlying5
      go_wp2
      go_ret2
      exact ⟨congrArg (fun l => Ending.returned (Value.tuple #[Value.string (mk l), Value.int .i64 0])) HE.out, HU.out⟩
    | n + 1, h => exact absurd h (by omega)

def encT (r : Int) : List UInt8 := if runeI r then Pl.enc r.toNat else []
def encE (r : Int) : Int := if runeI r then 0 else 20
set_option maxHeartbeats 400000 in
theorem encode_any (r : Int) (w : World) :
    Calls Tryz.prog 125 #[.int .i64 r] w fun e w' => e = .returned (.tuple #[.string (mk (encT r)), .int .i64 (encE r)]) ∧ Up w w' := by
  cases hR : runeI r
  · have h1 : encT r = [] := by simp [encT, hR]
    have h2 : encE r = 20 := by simp [encE, hR]
    rw [h1, h2]
    have HR := Lib.hid hR
    clear hR h1 h2
    go_enter Tryz.func125, Tryz.ntmps125
    go_wp2_with fail
    refine (isRune_any r _).mono ?_
    rintro e w1 ⟨rfl, hu1⟩
    rw [HR.out]
    go_wp2
    go_ret2
    exact ⟨rfl, hu1⟩
  · have h1 : encT r = Pl.enc r.toNat := by simp [encT, hR]
    have h2 : encE r = 0 := by simp [encE, hR]
    rw [h1, h2]
    have hb := (runeI_iff r).1 hR
    by_cases h : 65536 ≤ r
    · exact enc_big r w h (by omega) hR
    · by_cases h : 2048 ≤ r
      · exact enc_three r w h (by omega) hR
      · by_cases h : 128 ≤ r
        · exact enc_two r w h (by omega) hR
        · exact enc_one r w (by omega) (by omega) hR
end Go.Proofs.YtckfgkmfeklcmaaGreatDoor

namespace Go.Proofs.YtckfgkmfeklcmaaGreatDoor
open Go.RowKit

def headM (c : Int) : Int := if c ≥ 248 then -1 else if c ≥ 240 then 3 else if c ≥ 224 then 2 else if c ≥ 192 then 1 else if c ≥ 128 then -1 else 0
def headR (c : Int) : Int := if c ≥ 248 then 0 else if c ≥ 240 then c - 240 else if c ≥ 224 then c - 224 else if c ≥ 192 then c - 192 else if c ≥ 128 then 0 else c

set_option maxHeartbeats 400000 in
theorem head_any (c : Int) (w : World) (h0 : 0 ≤ c) (h1 : c ≤ 255) :
    Calls Tryz.prog 124 #[.int .u8 c] w fun e w' => e = .returned (.tuple #[.int .i64 (headM c), .int .i64 (headR c)]) ∧ w = w' := by
  go_enter Tryz.func124, Tryz.ntmps124
  go_wp2
  all_goals go_ret2
  all_goals (unfold headM headR; refine ⟨?_, rfl⟩; (repeat' split) <;> first | rfl | (exfalso; omega))

theorem conts_app (a b : List UInt8) : ∀ r, Pl.conts r (a ++ b) = (Pl.conts r a).bind fun q => Pl.conts q b := by
  induction a with
  | nil => intro r; rfl
  | cons c a ih => intro r; simp only [List.cons_append, Pl.conts]; split; exact ih _; rfl
theorem not63 (y : Int) (h0 : 0 ≤ y) (h1 : y < 256) : bits .andNot .u8 y 63 = y / 64 * 64 := by
  obtain ⟨n, rfl⟩ := Int.eq_ofNat_of_zero_le h0
  have : ∀ n : Fin 256, bits .andNot .u8 (n.val : Int) 63 = (n.val : Int) / 64 * 64 := by decide +kernel
  exact this ⟨n, by omega⟩
theorem or6 (x y : Int) (h0 : 0 ≤ x) (h1 : x < 2097152) (h2 : 0 ≤ y) (h3 : y < 64) : bits .or .i64 (x * 64) y = x * 64 + y :=
  bits_join .i64 32 (by decide) (fun n h0 h1 => by rw [IntKind.wrap_i64]; omega) 6 (x * 64) y (by omega) (by omega) (by omega) h2 (by omega) (by omega)

def decR (l : List UInt8) : Int := match Pl.dec l with | some (r, _) => r | none => 0
def decN (l : List UInt8) : Int := match Pl.dec l with | some (_, n) => n | none => 0
def decE (l : List UInt8) : Int := if l = [] then 10 else match Pl.dec l with | some _ => 0 | none => 20

theorem conts_step {d k q : Nat} {t : List UInt8} (hk : k < t.length) (h : Pl.conts d (t.take k) = some q) (hx : (t.getD k 0).toNat / 64 = 2) : Pl.conts d (t.take (k + 1)) = some (q * 64 + (t.getD k 0).toNat % 64) := by
  have : t.take (k + 1) = t.take k ++ [t.getD k 0] := by rw [List.take_succ_eq_append_getElem hk]; simp [List.getD, hk]
  rw [this, conts_app, h]
  simp only [Option.bind_some, Pl.conts]
  rw [if_pos hx]
theorem conts_stop {d k q m : Nat} {t : List UInt8} (hk : k < m) (hm : m ≤ t.length) (h : Pl.conts d (t.take k) = some q) (hx : ¬ (t.getD k 0).toNat / 64 = 2) : Pl.conts d (t.take m) = none := by
  have : t.take m = t.take k ++ (t.getD k 0 :: (t.take m).drop (k + 1)) := by
    conv => lhs; rw [← List.take_append_drop k (t.take m)]
    rw [List.take_take, Nat.min_eq_left (by omega), List.drop_eq_getElem_cons (by simp; omega)]
    congr 2
    simp [List.getD, show k < t.length by omega]
  rw [this, conts_app, h]
  simp only [Option.bind_some, Pl.conts]
  rw [if_neg hx]
theorem head_rel {c : UInt8} {m d : Nat} (hm : headM c.toNat = (m : Int)) (hd : headR c.toNat = d) : Pl.head c.toNat = some (m, d) ∧ d < 128 ∧ (0 < m → d < 32) ∧ m ≤ 3 := by
  have := c.toNat_lt
  unfold headM at hm
  unfold headR at hd
  unfold Pl.head
  split at hm
  · omega
  · split at hm
    · rw [if_neg (by omega), if_pos (by omega)] at hd
      rw [if_neg (by omega), if_neg (by omega), if_neg (by omega), if_neg (by omega), if_pos (by omega)]
      refine ⟨?_, by omega, by omega, by omega⟩
      rw [show m = 3 by omega, show d = c.toNat - 0xf0 by omega]
    · split at hm
      · rw [if_neg (by omega), if_neg (by omega), if_pos (by omega)] at hd
        rw [if_neg (by omega), if_neg (by omega), if_neg (by omega), if_pos (by omega)]
        refine ⟨?_, by omega, by omega, by omega⟩
        rw [show m = 2 by omega, show d = c.toNat - 0xe0 by omega]
      · split at hm
        · rw [if_neg (by omega), if_neg (by omega), if_neg (by omega), if_pos (by omega)] at hd
          rw [if_neg (by omega), if_neg (by omega), if_pos (by omega)]
          refine ⟨?_, by omega, by omega, by omega⟩
          rw [show m = 1 by omega, show d = c.toNat - 0xc0 by omega]
        · split at hm
          · omega
          · rw [if_neg (by omega), if_neg (by omega), if_neg (by omega), if_neg (by omega), if_neg (by omega)] at hd
            rw [if_pos (by omega)]
            refine ⟨?_, by omega, by omega, by omega⟩
            rw [show m = 0 by omega, show d = c.toNat by omega]
theorem dec_none {c : UInt8} {t : List UInt8} (h : Pl.dec (c :: t) = none) : decR (c :: t) = 0 ∧ decN (c :: t) = 0 ∧ decE (c :: t) = 20 := by
  simp [decR, decN, decE, h]
theorem dec_yes {c : UInt8} {t : List UInt8} {r n : Nat} (h : Pl.dec (c :: t) = some (r, n)) : decR (c :: t) = r ∧ decN (c :: t) = n ∧ decE (c :: t) = 0 := by
  simp [decR, decN, decE, h]
theorem ret3 {a b c a' b' c' : Int} (h1 : a' = a) (h2 : b' = b) (h3 : c' = c) : Ending.returned (Value.tuple #[.int .i64 a, .int .i64 b, .int .i64 c]) = .returned (.tuple #[.int .i64 a', .int .i64 b', .int .i64 c']) := by rw [h1, h2, h3]
theorem isRune_eq (q : Nat) : Pl.isRune q = runeI q := by
  rw [Bool.eq_iff_iff, runeI_iff]; simp [Pl.isRune]; omega

set_option maxRecDepth 100000 in
set_option maxHeartbeats 1000000 in
theorem decode_x (c : UInt8) (t : List UInt8) (m d : Nat) (w : World) (hm : headM c.toNat = (m : Int)) (hd : headR c.toNat = d) (hl : m ≤ t.length) (hmax : t.length ≤ 1000000000000000) :
    Calls Tryz.prog 101 #[.string (mk (c :: t))] w fun e w' => e = .returned (.tuple #[.int .i64 (decR (c :: t)), .int .i64 (decN (c :: t)), .int .i64 (decE (c :: t))]) ∧ Up w w' := by
  obtain ⟨hhead, hd128, hd32, h1⟩ := head_rel hm hd
  have HH := Lib.hid hhead
  have HM := Lib.hid hm
  have HD := Lib.hid hd
  clear hm hd hhead
  have hsz : (mk (c :: t)).size = t.length + 1 := by rw [mk_size]; rfl
  have hne : (mk (c :: t)).toList.isEmpty = false := by rw [mk_toList]; rfl
  have h00 : ∀ h : 0 < (mk (c :: t)).size, (mk (c :: t))[0]'h = c := fun _ => rfl
  have hex : (mk (c :: t)).extract 1 (m + 1) = mk (t.take m) := by rw [mk_cut]; rfl
  have hc := c.toNat_lt
  obtain ⟨cap, W, hcv, hup, hWs, hcell⟩ := conv_bytes (P := Tryz.prog) w 9 45 5 (t.take m) Tryz.underlying9 Tryz.underlying45 Tryz.underlying5
  rw [List.length_take, Nat.min_eq_left hl] at hcv hcell
  have HC := Lib.hid hcell
  clear hcell
  go_enter Tryz.func101, Tryz.ntmps101
  go_wp2_with fail
  refine (head_any c.toNat _ (by omega) (by omega)).mono ?_
  rintro e w1 ⟨rfl, rfl⟩
  rw [HM.out, HD.out]
  go_wp2_with fail
  clear hcv
  have HU := Lib.hid hup
  have HWS := Lib.hid hWs
  clear hup hWs hne h00 hex hsz
  go_loop [6, 33] (fun r i => ∃ k q : Nat, k ≤ m ∧ i = .int .i64 (k : Int) ∧ r = .int .i64 (q : Int) ∧ Pl.conts d (t.take k) = some q ∧ (k = 0 → q < 128) ∧ (0 < k → q < 32 * 64 ^ k)) (fun _ i => m - (intOf i).toNat)
  case atStart => exact ⟨0, d, Nat.zero_le _, rfl, rfl, rfl, fun _ => hd128, fun h => absurd h (Nat.lt_irrefl _)⟩
  case round =>
    obtain ⟨k, q, hk, rfl, rfl, hq, hq0, hq8⟩ := hrel
    have HQ := Lib.hid hq
    have HQ0 := Lib.hid hq0
    have HQ8 := Lib.hid hq8
    clear hq hq0 hq8
    by_cases hlt : k < m
    · have hcell := HC.out k hlt
      have HX := Lib.hid (show (List.take m t).getD k 0 = t.getD k 0 by simp [List.getD, List.getElem?_take, hlt])
      rw [HX.out] at hcell
      have HS := Lib.hid (fun h => conts_step (t := t) (show k < t.length by omega) HQ.out h)
      have HN := Lib.hid (fun h => conts_stop (t := t) hlt hl HQ.out h)
      generalize t.getD k 0 = x at hcell HX HS HN
      have hx := x.toNat_lt
      have hq7 : q < 131072 := by
        rcases Nat.eq_zero_or_pos k with h | h
        · have := HQ0.out h; omega
        · have := HQ8.out h
          have : 64 ^ k ≤ 64 ^ 2 := Nat.pow_le_pow_right (by decide) (by omega)
          omega
      by_cases hx2 : x.toNat / 64 = 2
      · have HX2 := Lib.hid hx2
        have htst : (bits BinOp.andNot IntKind.u8 (x.toNat : Int) 63 != 128) = false := by rw [not63 _ (by omega) (by omega)]; simp; omega
        clear hx2
        go_wp2_with fail
        go_round
        case rel =>
          refine ⟨k + 1, q * 64 + x.toNat % 64, by omega, by go_num, ?_, HS.out HX2.out, by omega, fun _ => ?_⟩
          · rw [or6 _ _ (by omega) (by omega) (by omega) (by omega)]; simp
          · rcases Nat.eq_zero_or_pos k with h | h
            · subst h; have := hd32 (by omega); have hq' := HQ.out; simp [Pl.conts] at hq'; simp; omega
            · have := HQ8.out h
              rw [Nat.pow_succ]; omega
        case measure => simp [intOf]; omega
      · have HX2 := Lib.hid hx2
        have htst : (bits BinOp.andNot IntKind.u8 (x.toNat : Int) 63 != 128) = true := by rw [not63 _ (by omega) (by omega)]; simp; omega
        clear hx2
        go_wp2_with fail
        have hdn : Pl.dec (c :: t) = none := by
          have hn := HN.out HX2.out
          simp only [Pl.dec, HH.out]
          rw [if_neg (by omega), hn]
        obtain ⟨z1, z2, z3⟩ := dec_none hdn
        go_ret3
        exact ⟨ret3 z1 z2 z3, HU.out⟩
    · obtain rfl : k = m := by omega
      go_wp2_with fail
      refine (encode_any q _).mono ?_
      rintro e w1 ⟨rfl, hu1⟩
      have HU1 := Lib.hid hu1
      clear hu1
      by_cases hy : runeI q = true
      · have hE : encE q = 0 := by simp [encE, hy]
        have hT : encT q = Pl.enc q := by simp [encT, hy]
        rw [hE, hT]
        clear hE hT
        by_cases hn : (Pl.enc q).length = k + 1
        · have hsz : (mk (Pl.enc q)).size = k + 1 := by rw [mk_size]; exact hn
          have hdn : Pl.dec (c :: t) = some (q, k + 1) := by
            simp only [Pl.dec, HH.out]
            rw [if_neg (by omega), HQ.out]
            simp [isRune_eq, hy, hn]
          have HDN := Lib.hid hdn
          have HY := Lib.hid hy
          clear hdn hn hy
          go_wp2_with fail
          obtain ⟨z1, z2, z3⟩ := dec_yes HDN.out
          go_ret3
          exact ⟨ret3 z1 z2 z3, HU.out.trans HU1.out⟩
        · have hsz : (mk (Pl.enc q)).size = (Pl.enc q).length := mk_size _
          have hdn : Pl.dec (c :: t) = none := by
            simp only [Pl.dec, HH.out]
            rw [if_neg (by omega), HQ.out]
            simp [isRune_eq, hy, hn]
          have HDN := Lib.hid hdn
          have HY := Lib.hid hy
          generalize (Pl.enc q).length = n at hsz hn
          clear hdn hy
          go_wp2_with fail
          obtain ⟨z1, z2, z3⟩ := dec_none HDN.out
          go_ret3
          exact ⟨ret3 z1 z2 z3, HU.out.trans HU1.out⟩
      · have hE : encE q = 20 := by simp [encE, hy]
        have hdn : Pl.dec (c :: t) = none := by
          simp only [Pl.dec, HH.out]
          rw [if_neg (by omega), HQ.out]
          simp [isRune_eq, hy]
        have HDN := Lib.hid hdn
        have HY := Lib.hid hy
        clear hdn hy
        rw [hE]
        clear hE
        go_wp2_with fail
        obtain ⟨z1, z2, z3⟩ := dec_none HDN.out
        go_ret3
        exact ⟨ret3 z1 z2 z3, HU.out.trans HU1.out⟩

set_option maxRecDepth 100000 in
set_option maxHeartbeats 1000000 in
theorem decode_short (c : UInt8) (t : List UInt8) (m d : Int) (w : World) (hm : headM c.toNat = m) (hd : headR c.toNat = d) (hl : m < 0 ∨ (t.length : Int) < m) (hmax : t.length ≤ 1000000000000000) :
    Calls Tryz.prog 101 #[.string (mk (c :: t))] w fun e w' => e = .returned (.tuple #[.int .i64 0, .int .i64 0, .int .i64 20]) ∧ Up w w' := by
  have HM := Lib.hid hm
  have HD := Lib.hid hd
  clear hm hd
  have hsz : (mk (c :: t)).size = t.length + 1 := by rw [mk_size]; rfl
  have hne : (mk (c :: t)).toList.isEmpty = false := by rw [mk_toList]; rfl
  have h00 : ∀ h : 0 < (mk (c :: t)).size, (mk (c :: t))[0]'h = c := fun _ => rfl
  have hc := c.toNat_lt
  by_cases hneg : m < 0
  all_goals
    go_enter Tryz.func101, Tryz.ntmps101
    go_wp2_with fail
    refine (head_any c.toNat _ (by omega) (by omega)).mono ?_
    rintro e w1 ⟨rfl, rfl⟩
    rw [HM.out, HD.out]
    go_wp2_with fail
    go_ret3
    exact ⟨rfl, Up.self _⟩

theorem headR_pos (c : UInt8) : 0 ≤ headR c.toNat := by unfold headR; (repeat' split) <;> omega
theorem head_neg {c : UInt8} (h : headM c.toNat < 0) : Pl.head c.toNat = none := by
  have := c.toNat_lt
  unfold headM at h
  unfold Pl.head
  (repeat' split) <;> first | rfl | (exfalso; (repeat' split at h) <;> omega)
/-- what is no first byte, or lacks bytes, is no rune -/
theorem dec_short {c : UInt8} {t : List UInt8} (h : headM c.toNat < 0 ∨ (t.length : Int) < headM c.toNat) : Pl.dec (c :: t) = none := by
  by_cases hn : headM c.toNat < 0
  · simp only [Pl.dec, head_neg hn]
  · obtain ⟨m, hm⟩ := Int.eq_ofNat_of_zero_le (show 0 ≤ headM c.toNat by omega)
    obtain ⟨d, hd⟩ := Int.eq_ofNat_of_zero_le (headR_pos c)
    simp only [Pl.dec, (head_rel hm hd).1]
    rw [if_pos (by omega)]

theorem mk_nil_or (s : ByteArray) : s = mk [] ∨ ∃ c t, s = mk (c :: t) := by
  cases h : s.data.toList with
  | nil => left; rw [← mk_of s, h]
  | cons c t => right; exact ⟨c, t, by rw [← mk_of s, h]⟩

set_option maxHeartbeats 400000 in
theorem decode_any (l : List UInt8) (w : World) (hmax : l.length ≤ 1000000000000000) :
    Calls Tryz.prog 101 #[.string (mk l)] w fun e w' => e = .returned (.tuple #[.int .i64 (decR l), .int .i64 (decN l), .int .i64 (decE l)]) ∧ Up w w' := by
  cases l with
  | nil =>
    have hne : (mk []).toList.isEmpty = true := by rw [mk_toList]; rfl
    go_enter Tryz.func101, Tryz.ntmps101
    go_wp2_with fail
    go_ret3
    exact ⟨rfl, Up.self _⟩
  | cons c t =>
    simp only [List.length_cons] at hmax
    by_cases h : headM c.toNat < 0 ∨ (t.length : Int) < headM c.toNat
    · obtain ⟨z1, z2, z3⟩ := dec_none (dec_short h)
      rw [z1, z2, z3]
      exact decode_short c t _ _ w rfl rfl h (by omega)
    · obtain ⟨m, hm⟩ := Int.eq_ofNat_of_zero_le (show 0 ≤ headM c.toNat by omega)
      obtain ⟨d, hd⟩ := Int.eq_ofNat_of_zero_le (headR_pos c)
      exact decode_x c t m d w hm hd (by omega) (by omega)
end Go.Proofs.YtckfgkmfeklcmaaGreatDoor
