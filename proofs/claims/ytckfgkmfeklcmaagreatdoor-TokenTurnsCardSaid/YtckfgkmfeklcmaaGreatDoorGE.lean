/- The texts NumA, NumB, NumC, NumP, NumD of this claim in one: the walks and plain laws that the statement's proof rests on. -/
import Derived.Test.YtckfgkmfeklcmaaGreatDoorGD
import Derived.Test.YtckfgkmfeklcmaaGreatDoorGA
import Derived.Lib.OthersKept
import Derived.WalkSmall
import Derived.Lib.SpaceUEq
import Derived.Lib.TrimUEq
import Derived.Lib.SmallJoins
import Derived.Lib.RuneCount
set_option linter.unusedVariables false
set_option linter.unusedSimpArgs false
/- Numbers as digits: bases. -/
namespace Go.Proofs.YtckfgkmfeklcmaaGreatDoor
open Go.RowKit Go.Shelf

def digitsL : List UInt8 := [48, 49, 50, 51, 52, 53, 54, 55, 56, 57, 97, 98, 99, 100, 101, 102]
def eqI (n : Int) : Value → Bool := fun v => match v with | .int _ m => n == m | _ => false
def isBase (n : Int) : Prop := n = 8 ∨ n = 10 ∨ n = 16
def basesKv : List (Value × Value) := [(.int .i64 8, .int .i64 8), (.int .i64 10, .int .i64 10), (.int .i64 16, .int .i64 16)]
theorem Tryz.zeroInt (w : World) : (zeroValue 3).run Tryz.prog w = .ok (.int .i64 0) w := by kernel_rfl

theorem sameNow_i64 (n m : Int) : Instr.sameNow (.int .i64) (.int .i64 n) (.int .i64 m) = some (eqI n (.int .i64 m)) := rfl

set_option maxRecDepth 100000 in
set_option maxHeartbeats 1600000 in
theorem of_yes (n : Nat) (w : World) (hn : n = 8 ∨ n = 10 ∨ n = 16) :
    Calls Tryz.prog 117 #[.int .i64 (n : Int)] w fun e w' => e = .returned (.tuple #[.agg #[.int .u64 (n : Int), .string (mk (digitsL.take n))], .nilIface]) ∧ Up w w' := by
  have hmm := @run_makeMap Tryz.prog
  obtain ⟨W1, hW1⟩ : ∃ W1, W1 = (w.alloc (.cells #[.int .u64 0, .string ⟨#[]⟩] 197)).alloc (.map #[] 0) := ⟨_, rfl⟩
  have m1 : MapAt W1 (w.heap.size + 1) [] := by have := MapAt.new (w.alloc (.cells #[.int .u64 0, .string ⟨#[]⟩] 197)); rw [World.size_alloc, ← hW1] at this; exact this
  obtain ⟨W2, r2, m2, i2, z2⟩ := run_update_new (P := Tryz.prog) m1 (.int .i64 8) (.int .i64 8) (eqI 8) Tryz.underlying235 Tryz.underlying3 rfl (by simp) (by simp)
  obtain ⟨W3, r3, m3, i3, z3⟩ := run_update_new (P := Tryz.prog) m2 (.int .i64 10) (.int .i64 10) (eqI 10) Tryz.underlying235 Tryz.underlying3 rfl (by simp [sameNow_i64]) (by simp [eqI])
  obtain ⟨W4, r4, m4, i4, z4⟩ := run_update_new (P := Tryz.prog) m3 (.int .i64 16) (.int .i64 16) (eqI 16) Tryz.underlying235 Tryz.underlying3 rfl (by simp [sameNow_i64]) (by simp [eqI])
  have l4 := run_lookup_ok (P := Tryz.prog) m4 (.int .i64 (n : Int)) (.int .i64 0) (eqI (n : Int)) Tryz.underlying235 Tryz.underlying3 rfl (Tryz.zeroInt W4) (by simp [sameNow_i64]) true
  have l4' : (Instr.lookup 235 (.map (some (w.heap.size + 1))) (.int .i64 (n : Int)) true).run Tryz.prog W4 = .ok (.tuple #[.int .i64 (n : Int), .bool true]) W4 := by
    rw [l4]
    rcases hn with rfl | rfl | rfl <;> simp [eqI]
  have hb : W1.heap[w.heap.size]? = some (.cells #[.int .u64 0, .string ⟨#[]⟩] 197 (0, 0)) := by rw [hW1, Below.heap_alloc _ _ _ (by simp)]; exact heap_new rfl
  have hb4 : W4.heap[w.heap.size]? = some (.cells #[.int .u64 0, .string ⟨#[]⟩] 197 (0, 0)) := i4.same _ _ (i3.same _ _ (i2.same _ _ hb (by omega)) (by omega)) (by omega)
  have hup : Up w W4 := by
    have u1 : Up w W1 := by rw [hW1]; exact ((Up.self w).alloc _).alloc _
    have u4 : ItTurns (fun x => x = w.heap.size + 1) W1 W4 := (i2.trans i3).trans i4
    exact ⟨u4.os.trans u1.os, u4.tape.trans u1.tape, u4.output.trans u1.output, Nat.le_trans u1.size u4.size, fun k hk => by
      have h1 := u1.block k hk
      rw [Array.getElem?_eq_getElem hk] at h1 ⊢
      exact u4.same k _ h1 (by omega)⟩
  have c0 := cell_of_block hb4 0
  have c1 := cell_of_block hb4 1
  have f0 := frozen_of_block hb4 0
  have f1 := frozen_of_block hb4 1
  rw [hW1] at r2
  have HUP := Lib.hid hup
  clear m1 m2 m3 m4 i2 i3 i4 z2 z3 z4 l4 hb hb4 hup hW1
  have hn16 : n ≤ 16 := by omega
  have hcut : (mk digitsL).extract 0 n = mk (digitsL.take n) := by rw [mk_cut]; rfl
  clear hn
  go_enter Tryz.func117, Tryz.ntmps117
  go_wp2_with fail
  rw [show (({ data := #[48, 49, 50, 51, 52, 53, 54, 55, 56, 57, 97, 98, 99, 100, 101, 102] } : ByteArray).extract 0 n) = mk (digitsL.take n) from hcut]
  have k1 : ((W4.setCell ⟨w.heap.size, 0, none⟩ (.int .u64 (n : Int))).setCell ⟨w.heap.size, 1, none⟩ (.string (mk (digitsL.take n)))).cell? ⟨w.heap.size, 1, none⟩ = some (.string (mk (digitsL.take n))) :=
    World.cell?_setCell_same _ _ _ (by rw [cell_kept_set (by simp)]; exact c1)
  have k0 : ((W4.setCell ⟨w.heap.size, 0, none⟩ (.int .u64 (n : Int))).setCell ⟨w.heap.size, 1, none⟩ (.string (mk (digitsL.take n)))).cell? ⟨w.heap.size, 0, none⟩ = some (.int .u64 (n : Int)) := by
    rw [cell_kept_set (by simp)]; exact World.cell?_setCell_same _ _ _ c0
  have hu2 : Up w ((W4.setCell ⟨w.heap.size, 0, none⟩ (.int .u64 (n : Int))).setCell ⟨w.heap.size, 1, none⟩ (.string (mk (digitsL.take n)))) :=
    (Below.setCell HUP.out (p := ⟨w.heap.size, 0, none⟩) (Nat.le_refl _) _).setCell (p := ⟨w.heap.size, 1, none⟩) (Nat.le_refl _) _
  generalize (W4.setCell ⟨w.heap.size, 0, none⟩ (.int .u64 (n : Int))).setCell ⟨w.heap.size, 1, none⟩ (.string (mk (digitsL.take n))) = W5 at *
  exact bodyPost_ret (v := .tuple #[.agg #[.int .u64 (n : Int), .string (mk (digitsL.take n))], .nilIface]) (by simp [results, Tryz.results117, go_sem, k0, k1]) rfl ⟨rfl, hu2⟩
end Go.Proofs.YtckfgkmfeklcmaaGreatDoor

/- Numbers as digits: reading them. -/
namespace Go.Proofs.YtckfgkmfeklcmaaGreatDoor
open Go.RowKit Go.Shelf

def asciiL (l : List UInt8) : Bool := l.all fun c => decide (c.toNat < 128)
def posOf (l : List UInt8) (r : Int) : Int := match l.findIdx? (fun c => (c.toNat : Int) == r) with | some i => i | none => -1
theorem posOf_at {l : List UInt8} {r : Int} {k : Nat} (hlt : k < l.length) (hno : ∀ j, j < k → ((l.getD j 0).toNat : Int) ≠ r) (hy : ((l.getD k 0).toNat : Int) = r) : posOf l r = k := by
  have : l.findIdx? (fun c => (c.toNat : Int) == r) = some k := by
    rw [List.findIdx?_eq_some_iff_getElem]
    refine ⟨hlt, by simpa [List.getD, hlt] using hy, fun j hj => ?_⟩
    have := hno j hj
    simpa [List.getD, show j < l.length by omega] using this
  simp [posOf, this]
theorem posOf_none {l : List UInt8} {r : Int} (hno : ∀ j, j < l.length → ((l.getD j 0).toNat : Int) ≠ r) : posOf l r = -1 := by
  have : l.findIdx? (fun c => (c.toNat : Int) == r) = none := by
    rw [List.findIdx?_eq_none_iff]
    intro x hx
    obtain ⟨j, hj, rfl⟩ := List.getElem_of_mem hx
    have := hno j hj
    simpa [List.getD, hj] using this
  simp [posOf, this]

theorem mk_at (l : List UInt8) (k : Nat) (h : k < (mk l).size) : (mk l)[k]'h = l.getD k 0 := by
  have h' : k < l.length := by rw [mk_size] at h; exact h
  simp [mk, List.getD, h']
  rfl
theorem next_ascii {P : Program} {w : World} {b k : Nat} {l : List UInt8} (hk : w.heap[b]? = some (.stringIter (mk l) k)) (hlt : k < l.length) (ha : (l.getD k 0).toNat < 128) (ty : TypeId) :
    (Instr.next (.pointer (some ⟨b, 0, none⟩)) true ty).run P w = .ok (.tuple #[.bool true, .int .i64 (k : Int), .int .i32 ((l.getD k 0).toNat : Int)]) (w.iterAt b (mk l) (k + 1)) := by
  have h : k < (mk l).size := by rw [mk_size]; exact hlt
  have := Lib.run_next_ascii_at (P := P) w b (mk l) k ty hk h (by rw [mk_at]; exact ha)
  rw [mk_at] at this
  exact this
theorem next_end {P : Program} {w : World} {b k : Nat} {l : List UInt8} (hk : w.heap[b]? = some (.stringIter (mk l) k)) (hlt : ¬ k < l.length) (ty : TypeId) :
    (Instr.next (.pointer (some ⟨b, 0, none⟩)) true ty).run P w = .ok (.tuple #[.bool false]) w :=
  Lib.run_next_end_at w b (mk l) k ty hk (by rw [mk_size]; exact hlt)
theorem next_any {P : Program} {w : World} {b k : Nat} {l : List UInt8} (hk : w.heap[b]? = some (.stringIter (mk l) k)) (hlt : k < l.length) (ty : TypeId) :
    (Instr.next (.pointer (some ⟨b, 0, none⟩)) true ty).run P w = .ok (.tuple #[.bool true, .int .i64 (k : Int), .int .i32 ((Utf8.decode (mk l) k).1 : Int)]) (w.iterAt b (mk l) (k + (Utf8.decode (mk l) k).2)) :=
  Lib.run_next_any_at (P := P) w b (mk l) k ty hk (by rw [mk_size]; exact hlt)
def iterPos (w : World) (b : Nat) : Nat := match w.heap[b]? with | some (.stringIter _ p) => p | _ => 0
theorem iterPos_eq {w : World} {b k : Nat} {s : ByteArray} (h : w.heap[b]? = some (.stringIter s k)) : iterPos w b = k := by simp [iterPos, h]
theorem up_iterAt {a w : World} (h : Up a w) {k : Nat} (hk : a.heap.size ≤ k) (s : ByteArray) (pos : Nat) : Up a (w.iterAt k s pos) := Lib.below_iterAt h hk s pos

set_option maxRecDepth 100000 in
set_option maxHeartbeats 800000 in
theorem runeAt_any (l : List UInt8) (r : Int) (w : World) (hl : asciiL l = true) (hn : l.length ≤ 1000) :
    Calls Tryz.prog 199 #[.string (mk l), .int .i32 r] w fun e w' => e = .returned (.int .i64 (posOf l r)) ∧ Up w w' := by
  have HL := Lib.hid hl
  clear hl
  have hsz := mk_size l
  go_enter Tryz.func199, Tryz.ntmps199
  go_wp2_with fail
  go_loopw [5, 6] (fun _ _ wr => ∃ k : Nat, k ≤ l.length ∧ wr.heap[w.heap.size]? = some (.stringIter (mk l) k) ∧ Up w wr ∧ ∀ j, j < k → ((l.getD j 0).toNat : Int) ≠ r) (fun _ _ wr => l.length - iterPos wr w.heap.size)
  case atStart => exact ⟨0, Nat.zero_le _, World.iter_heap _ _ _, (Up.self w).alloc _, fun j h => absurd h (Nat.not_lt_zero _)⟩
  case round =>
    obtain ⟨k, hk, hit, hup, hno⟩ := hrel
    have HIT := Lib.hid hit
    have HUP := Lib.hid hup
    have HNO := Lib.hid hno
    clear hit hup hno
    by_cases hlt : k < l.length
    · have ha : (l.getD k 0).toNat < 128 := by
        have := List.all_eq_true.1 HL.out (l.getD k 0) (by simp [List.getD, hlt])
        simpa using this
      have hnx := next_ascii (P := Tryz.prog) HIT.out hlt ha
      have HI2 := Lib.hid (Lib.iterAt_heap wr w.heap.size (mk l) k (k + 1) HIT.out)
      have HU2 := Lib.hid (up_iterAt HUP.out (Nat.le_refl _) (mk l) (k + 1))
      obtain ⟨c, hc⟩ : ∃ c, c = (l.getD k 0).toNat := ⟨_, rfl⟩
      rw [← hc] at hnx ha
      have HC := Lib.hid hc
      clear hc hsz
      by_cases hcr : (c : Int) = r
      all_goals have HCR := Lib.hid hcr
      · have ht : ((c : Int) == r) = true := by simpa using hcr
        clear hcr
        go_wp2_with fail
        go_ret
        exact ⟨ret_i64 (posOf_at hlt HNO.out (by rw [← HC.out]; exact HCR.out)).symm, HU2.out⟩
      · have ht : ((c : Int) == r) = false := by simpa using hcr
        clear hcr
        go_wp2_with fail
        go_roundw
        case rel =>
          refine ⟨k + 1, by omega, HI2.out, HU2.out, fun j hj => ?_⟩
          by_cases e : j = k
          · rw [e, ← HC.out]; exact HCR.out
          · exact HNO.out j (by omega)
        case measure => rw [iterPos_eq HI2.out, iterPos_eq HIT.out]; omega
    · have hnx := next_end (P := Tryz.prog) HIT.out hlt
      go_wp2_with fail
      go_ret
      have : k = l.length := by omega
      subst this
      exact ⟨ret_i64 (posOf_none HNO.out).symm, HUP.out⟩
end Go.Proofs.YtckfgkmfeklcmaaGreatDoor

/- Numbers as digits: one digit taken. -/
namespace Go.Proofs.YtckfgkmfeklcmaaGreatDoor
open Go.RowKit Go.Shelf

def lowI (c : Int) : Int := if 65 ≤ c ∧ c ≤ 70 then c + 32 else c
def digI (n : Nat) (c : Int) : Int := posOf (digitsL.take n) (lowI c)

theorem digits_ascii (n : Nat) : asciiL (digitsL.take n) = true := by
  have : asciiL digitsL = true := by decide
  unfold asciiL at *
  rw [List.all_eq_true] at *
  exact fun x hx => this x (List.mem_of_mem_take hx)
theorem u64_in (x : Int) (h0 : 0 ≤ x) (h1 : x < 18446744073709551616) : IntKind.u64.wrap x = x := by
  simp [IntKind.wrap, IntKind.bits, IntKind.signed]; omega
theorem quo_in (d : Int) (n : Nat) (h0 : 0 ≤ d) (h1 : d < 100) (hn : 1 ≤ n) : IntKind.u64.wrap ((IntKind.u64.wrap (18446744073709551615 - IntKind.u64.wrap d)).tdiv (n : Int)) = (18446744073709551615 - d) / (n : Int) := by
  rw [u64_in d h0 (by omega), u64_in (18446744073709551615 - d) (by omega) (by omega), Int.tdiv_eq_ediv_of_nonneg (by omega)]
  refine u64_in _ (Int.ediv_nonneg (by omega) (by omega)) ?_
  have : (18446744073709551615 - d) / (n : Int) ≤ 18446744073709551615 - d := Int.ediv_le_self _ (by omega)
  omega
/-- the greatest number that can take one digit more -/
def mostI (d : Int) (n : Nat) : Int := (18446744073709551615 - d) / (n : Int)
theorem mul_in (acc d : Int) (n : Nat) (h0 : 0 ≤ d) (h1 : d < 100) (hn : 1 ≤ n) (ha : 0 ≤ acc) (hm : acc ≤ mostI d n) : acc * n + d ≤ 18446744073709551615 := by
  unfold mostI at hm
  have : acc * n ≤ 18446744073709551615 - d := by
    have := (Int.le_ediv_iff_mul_le (show (0 : Int) < n by omega)).1 hm
    exact this
  omega
theorem posOf_bound (l : List UInt8) (r : Int) : posOf l r < l.length ∨ posOf l r = -1 := by
  unfold posOf
  cases h : l.findIdx? (fun c => (c.toNat : Int) == r) with
  | none => right; rfl
  | some i => left; have := (List.findIdx?_eq_some_iff_getElem.1 h).1; simp; omega
theorem digI_bound (n : Nat) (c : Int) : digI n c < 100 := by
  unfold digI
  have h : (digitsL.take n).length ≤ 16 := by simp [digitsL]; omega
  rcases posOf_bound (digitsL.take n) (lowI c) with h1 | h1 <;> omega

theorem runeAt_is (l : List UInt8) (r d : Int) (w : World) (hl : asciiL l = true) (hn : l.length ≤ 1000) (hd : posOf l r = d) :
    Calls Tryz.prog 199 #[.string (mk l), .int .i32 r] w fun e w' => e = .returned (.int .i64 d) ∧ Up w w' := by
  subst hd; exact runeAt_any l r w hl hn

set_option maxRecDepth 100000 in
set_option maxHeartbeats 1600000 in
theorem take_yes (n : Nat) (acc c d : Int) (g sb : Nat) (w : World) (hd : digI n c = d) (hd0 : 0 ≤ d) (hn : n = 8 ∨ n = 10 ∨ n = 16) (hg : w.heap[g]? = some (.cells #[.int .u64 (n : Int), .string (mk (digitsL.take n)), .int .u64 acc] 271 (0, 0)))
    (hs : w.cell? ⟨sb, 0, none⟩ = some (.int .i32 c)) (ha0 : 0 ≤ acc) (ham : acc ≤ mostI d n) :
    Calls Tryz.prog 197 #[.pointer (some ⟨g, 0, none⟩), .slice (some ⟨sb, 0, none⟩) 1 1] w fun e w' => e = .returned .nilIface ∧ ∃ w1 k, Up w w1 ∧ w' = (w1.drewN k).setCell ⟨g, 2, none⟩ (.int .u64 (acc * n + d)) := by
  have hgl := lt_of_block hg
  have c0 := cell_of_block hg 0
  have c1 := cell_of_block hg 1
  have c2 := cell_of_block hg 2
  have f2 := frozen_of_block hg 2
  have hn0 : 1 ≤ n := by omega
  have hn16 : n ≤ 16 := by omega
  have hd100 : d < 100 := by rw [← hd]; exact digI_bound n c
  have HM := Lib.hid (And.intro ham (mul_in acc d n hd0 hd100 hn0 ha0 ham))
  have HD := Lib.hid hd
  have HQ := Lib.hid (quo_in d n hd0 hd100 hn0)
  clear hd hn hg ham
  have h3 : (65 ≤ c ∧ c ≤ 70) ∨ c < 65 ∨ 70 < c := by omega
  rcases h3 with ⟨hc1, hc2⟩ | hc1 | hc1
  all_goals
    go_enter Tryz.func197, Tryz.ntmps197
    go_wp2_with fail
    refine wp_loop_rounds 2 ?_
    go_wp2_with (with_reducible refine rounds_go ?_)
    have hdp := HD.out
    unfold digI lowI at hdp
    first
    | rw [if_pos ⟨by omega, by omega⟩] at hdp
    | rw [if_neg (by omega)] at hdp
    have HP := Lib.hid hdp
    clear hdp
    refine (runeAt_is _ _ d _ (digits_ascii n) (by simp [digitsL]; omega) (by first | exact HP.out | (rw [show IntKind.i32.wrap (c + 32) = c + 32 by simp [IntKind.wrap, IntKind.bits, IntKind.signed]; omega]; exact HP.out))).mono ?_
    rintro e w1 ⟨rfl, hu1⟩
    have hu1' : Up w w1 := hu1
    have d0 : w1.cell? ⟨g, 0, none⟩ = _ := (hu1'.cells.1 g 0 hgl).trans c0
    have d2 : w1.cell? ⟨g, 2, none⟩ = _ := (hu1'.cells.1 g 2 hgl).trans c2
    have e2 : w1.frozen? ⟨g, 2, none⟩ = _ := (hu1'.cells.2 g 2 hgl).trans f2
    have HU := Lib.hid hu1'
    clear c0 c1 c2 f2 hu1 hu1' HP
    have hd0b : (decide (d < 0)) = false := by simp; omega
    go_wp2_with fail
    go_quiet (fail)
    have hle : acc ≤ (18446744073709551615 - d) / (n : Int) := by simpa [mostI] using HM.out.1
    generalize (18446744073709551615 - d) / (n : Int) = q at hle ⊢
    have hle2 : (decide (q < acc)) = false := by simp; omega
    go_wp2_with fail
    go_region
    have hv : IntKind.u64.wrap (IntKind.u64.wrap (acc * (n : Int)) + d) = acc * n + d := by
      have h1 := HM.out.2
      have h2 : 0 ≤ acc * (n : Int) := Int.mul_nonneg ha0 (by omega)
      rw [u64_in (acc * (n : Int)) h2 (by omega), u64_in _ (by omega) (by omega)]
    rw [hv]
    clear hv
    go_wp2_with (with_reducible refine rounds_go ?_)
    go_ret
    refine ⟨rfl, w1, nq + 1, ?_, ?_⟩
    · exact HU.out
    · rfl
set_option maxRecDepth 100000 in
set_option maxHeartbeats 1600000 in
theorem take_no (n : Nat) (acc c d : Int) (g sb : Nat) (w : World) (hd : digI n c = d) (E : Value) (hE : w.cell? ⟨5, 0, none⟩ = some E) (hn : n = 8 ∨ n = 10 ∨ n = 16) (hg : w.heap[g]? = some (.cells #[.int .u64 (n : Int), .string (mk (digitsL.take n)), .int .u64 acc] 271 (0, 0)))
    (hs : w.cell? ⟨sb, 0, none⟩ = some (.int .i32 c)) (ha0 : 0 ≤ acc) (ham : d < 0 ∨ mostI d n < acc) :
    Calls Tryz.prog 197 #[.pointer (some ⟨g, 0, none⟩), .slice (some ⟨sb, 0, none⟩) 1 1] w fun e w' => e = .returned E ∧ Up w w' := by
  have hgl := lt_of_block hg
  have hEl := lt_of_cell hE
  have c0 := cell_of_block hg 0
  have c1 := cell_of_block hg 1
  have c2 := cell_of_block hg 2
  have f2 := frozen_of_block hg 2
  have hn0 : 1 ≤ n := by omega
  have hn16 : n ≤ 16 := by omega
  have hd100 : d < 100 := by rw [← hd]; exact digI_bound n c
  have HD := Lib.hid hd
  clear hd hn hg
  have HAM := Lib.hid ham
  clear ham
  have h3 : (65 ≤ c ∧ c ≤ 70) ∨ c < 65 ∨ 70 < c := by omega
  rcases h3 with ⟨hc1, hc2⟩ | hc1 | hc1
  all_goals
    go_enter Tryz.func197, Tryz.ntmps197
    go_wp2_with fail
    refine wp_loop_rounds 2 ?_
    go_wp2_with (with_reducible refine rounds_go ?_)
    have hdp := HD.out
    unfold digI lowI at hdp
    first
    | rw [if_pos ⟨by omega, by omega⟩] at hdp
    | rw [if_neg (by omega)] at hdp
    have HP := Lib.hid hdp
    clear hdp
    refine (runeAt_is _ _ d _ (digits_ascii n) (by simp [digitsL]; omega) (by first | exact HP.out | (rw [show IntKind.i32.wrap (c + 32) = c + 32 by simp [IntKind.wrap, IntKind.bits, IntKind.signed]; omega]; exact HP.out))).mono ?_
    rintro e w1 ⟨rfl, hu1⟩
    have hu1' : Up w w1 := hu1
    have d0 : w1.cell? ⟨g, 0, none⟩ = _ := (hu1'.cells.1 g 0 hgl).trans c0
    have d2 : w1.cell? ⟨g, 2, none⟩ = _ := (hu1'.cells.1 g 2 hgl).trans c2
    have e2 : w1.frozen? ⟨g, 2, none⟩ = _ := (hu1'.cells.2 g 2 hgl).trans f2
    have dE : w1.cell? ⟨5, 0, none⟩ = some E := (hu1'.cells.1 _ 0 hEl).trans hE
    have HU := Lib.hid hu1'
    clear hE c0 c1 c2 f2 hu1 hu1' HP
    rcases Int.lt_or_le d 0 with hneg | hd0
    · have hd0b : (decide (d < 0)) = true := by simp; omega
      go_wp2_with fail
      go_quiet (fail)
      go_wp2_with fail
      go_ret
      refine ⟨rfl, ?_⟩
      exact below_drewN HU.out _
    · have hd0b : (decide (d < 0)) = false := by simp; omega
      go_wp2_with fail
      go_quiet (fail)
      have hle : (18446744073709551615 - d) / (n : Int) < acc := by
        have := HAM.out
        unfold mostI at this
        omega
      generalize (18446744073709551615 - d) / (n : Int) = q at hle ⊢
      have hle2 : (decide (q < acc)) = true := by simp; omega
      go_wp2_with fail
      go_ret
      refine ⟨rfl, ?_⟩
      exact below_drewN HU.out _
end Go.Proofs.YtckfgkmfeklcmaaGreatDoor

/- Numbers as digits: what a digit is worth, plainly. -/
namespace Go.Proofs.YtckfgkmfeklcmaaGreatDoor
open Go.RowKit Go.Shelf

theorem digI_small (n : Nat) (hn : n = 8 ∨ n = 10 ∨ n = 16) (c : Nat) (hc : c < 128) : digI n (c : Int) = if Pl.digit c < n then (Pl.digit c : Int) else -1 := by
  rcases hn with rfl | rfl | rfl
  · have : ∀ c : Fin 128, digI 8 (c.1 : Int) = if Pl.digit c.1 < 8 then (Pl.digit c.1 : Int) else -1 := by decide +kernel
    exact this ⟨c, hc⟩
  · have : ∀ c : Fin 128, digI 10 (c.1 : Int) = if Pl.digit c.1 < 10 then (Pl.digit c.1 : Int) else -1 := by decide +kernel
    exact this ⟨c, hc⟩
  · have : ∀ c : Fin 128, digI 16 (c.1 : Int) = if Pl.digit c.1 < 16 then (Pl.digit c.1 : Int) else -1 := by decide +kernel
    exact this ⟨c, hc⟩
theorem digI_big (n : Nat) (c : Int) (hc : 128 ≤ c) : digI n c = -1 := by
  unfold digI lowI
  rw [if_neg (by omega)]
  apply posOf_none
  intro j hj
  have h := digits_ascii n
  unfold asciiL at h
  rw [List.all_eq_true] at h
  have := h _ (List.getElem_mem hj)
  simp only [decide_eq_true_eq] at this
  rw [List.getD, List.getElem?_eq_getElem hj]
  simp only [Option.getD_some]
  omega
theorem digit_big (c : Nat) (hc : 128 ≤ c) : Pl.digit c = 99 := by
  unfold Pl.digit
  rw [if_neg (by simp; omega), if_neg (by simp; omega), if_neg (by simp; omega)]
theorem decode_big {l : List UInt8} {k : Nat} (h : 128 ≤ (l.getD k 0).toNat) : 128 ≤ (Utf8.decode (mk l) k).1 := by
  rw [Lib.decode_N, mk_list]
  rcases Lib.decodeN_cases (l.length - k) (l.getD k 0).toNat (l.getD (k + 1) 0).toNat (l.getD (k + 2) 0).toNat (l.getD (k + 3) 0).toNat with ⟨h1, _⟩ | ⟨_, _, _, h1, h2⟩ | ⟨_, _, _, _, h1, h2⟩ | ⟨h1, _⟩ | h1
  · omega
  · rw [h2]; exact h1
  · rw [h2]; simp only; omega
  · omega
  · rw [h1]; decide
theorem most_nat (d n : Nat) (hd : d ≤ 99) : mostI (d : Int) n = ((18446744073709551615 - d) / n : Nat) := by
  unfold mostI
  rw [Int.natCast_ediv, Int.natCast_sub (by omega)]
  rfl
/-- one digit: it is taken, or the number ends there -/
theorem num_step (n A : Nat) (c : UInt8) (t : List UInt8) (r : Int) (hn : n = 8 ∨ n = 10 ∨ n = 16) (hr : (c.toNat < 128 ∧ r = (c.toNat : Int)) ∨ (128 ≤ c.toNat ∧ 128 ≤ r)) :
    (∃ d : Nat, digI n r = (d : Int) ∧ (A : Int) ≤ mostI (d : Int) n ∧ Pl.numF n A (c :: t) = Pl.numF n (A * n + d) t) ∨
    (Pl.numF n A (c :: t) = none ∧ (digI n r < 0 ∨ mostI (digI n r) n < A)) := by
  rcases hr with ⟨h1, rfl⟩ | ⟨h1, h2⟩
  · rw [digI_small n hn _ h1]
    by_cases h3 : Pl.digit c.toNat < n
    · rw [if_pos h3]
      have h4 : Pl.digit c.toNat ≤ 99 := by unfold Pl.digit; (repeat' split) <;> simp_all <;> omega
      rw [most_nat _ _ h4]
      by_cases h5 : A > (18446744073709551615 - Pl.digit c.toNat) / n
      · right
        refine ⟨?_, .inr (by exact_mod_cast h5)⟩
        rw [Pl.numF]
        simp [h5]
      · left
        refine ⟨_, rfl, ?_, ?_⟩
        · rw [most_nat _ _ h4]
          exact_mod_cast Nat.not_lt.1 h5
        · rw [Pl.numF]
          rw [if_neg (by simp; omega)]
    · right
      rw [if_neg h3]
      refine ⟨?_, .inl (by decide)⟩
      rw [Pl.numF]
      simp; omega
  · right
    rw [digI_big n r h2]
    refine ⟨?_, .inl (by decide)⟩
    rw [Pl.numF, digit_big _ h1]
    rw [if_pos]
    simp; omega
end Go.Proofs.YtckfgkmfeklcmaaGreatDoor

/- Numbers as digits: a whole number read. -/
namespace Go.Proofs.YtckfgkmfeklcmaaGreatDoor
open Go.RowKit Go.Shelf

def numRes (E : Value) : Option Nat → Value
  | some v => .tuple #[.int .u64 (v : Int), .nilIface]
  | none => .tuple #[.int .u64 0, E]

theorem iterAt_other (w : World) (b k : Nat) (s : ByteArray) (p : Nat) (h : k ≠ b) : (w.iterAt b s p).heap[k]? = w.heap[k]? := by
  simp [World.iterAt, Array.getElem?_setIfInBounds, h, Ne.symm h]

set_option maxRecDepth 100000 in
set_option maxHeartbeats 1600000 in
theorem numGet_any (n : Nat) (l : List UInt8) (w : World) (E : Value) (hE : w.cell? ⟨5, 0, none⟩ = some E) (hEn : ∃ t v, E = .iface t v) (hn : n = 8 ∨ n = 10 ∨ n = 16) :
    Calls Tryz.prog 186 #[.int .i64 (n : Int), .string (mk l)] w fun e w' => e = .returned (numRes E (Pl.numGet n l)) ∧ Up w w' := by
  have HE := Lib.hid hE
  have HN := Lib.hid hn
  obtain ⟨et, ev, rfl⟩ := hEn
  have hEl := lt_of_cell hE
  clear hE hn
  have hsz := mk_size l
  go_enter Tryz.func186, Tryz.ntmps186
  go_wp2_with fail
  refine (of_yes n _ HN.out).mono ?_
  rintro e w1 ⟨rfl, hu1⟩
  have HU1 := Lib.hid hu1
  clear hu1
  go_wp2_with fail
  obtain ⟨W0, hW0⟩ : ∃ W0, W0 = (((w1.alloc (Obj.cells #[Value.int IntKind.u64 ↑n, Value.string (mk (List.take n digitsL))] 197)).alloc (Obj.cells #[Value.int IntKind.u64 ↑n, Value.string (mk (List.take n digitsL)), Value.int IntKind.u64 0] 271)).iter (mk l) 0) := ⟨_, rfl⟩
  have hu0 : Up w W0 := by
    rw [hW0]; exact ((HU1.out.alloc _).alloc _).alloc _
  have hi0 : W0.heap[w1.heap.size + 1 + 1]? = some (.stringIter (mk l) 0) := by
    rw [hW0]
    have := World.iter_heap ((w1.alloc (Obj.cells #[Value.int IntKind.u64 ↑n, Value.string (mk (List.take n digitsL))] 197)).alloc (Obj.cells #[Value.int IntKind.u64 ↑n, Value.string (mk (List.take n digitsL)), Value.int IntKind.u64 0] 271)) (mk l) 0
    simp only [World.size_alloc] at this
    exact this
  have hr0 : (W0.heap[w1.heap.size + 1]? = some (.cells #[Value.int IntKind.u64 ↑n, Value.string (mk (List.take n digitsL)), Value.int IntKind.u64 0] 271 (0, 0))) := by
    rw [hW0]
    rw [show ∀ (x : World) o, (x.iter o 0) = x.alloc (.stringIter o 0) from fun _ _ => rfl]
    rw [Below.heap_alloc _ _ _ (by simp)]
    exact heap_new (by simp)
  have hl0 : w.heap.size ≤ w1.heap.size := HU1.out.size
  rw [← hW0]
  have HU0 := Lib.hid hu0
  have HI0 := Lib.hid hi0
  have HR0 := Lib.hid hr0
  clear hW0 hu0 hi0 hr0 HU1
  generalize w1.heap.size = q at *
  go_loopw [10, 11] (fun _ _ wr => ∃ k A : Nat, k ≤ l.length ∧ wr.heap[q + 1 + 1]? = some (.stringIter (mk l) k) ∧ wr.heap[q + 1]? = some (.cells #[Value.int IntKind.u64 ↑n, Value.string (mk (List.take n digitsL)), Value.int IntKind.u64 (A : Int)] 271 (0, 0)) ∧ Up w wr ∧ Pl.numF n 0 l = Pl.numF n A (l.drop k)) (fun _ _ wr => l.length - iterPos wr (q + 1 + 1))
  case atStart => exact ⟨0, 0, Nat.zero_le _, HI0.out, HR0.out, HU0.out, by simp⟩
  case round =>
    obtain ⟨k, A, hk, hit, hrd, hup, hnum⟩ := hrel
    have HIT := Lib.hid hit
    have HRD := Lib.hid hrd
    have HUP := Lib.hid hup
    have HNM := Lib.hid hnum
    clear hit hrd hup hnum
    by_cases hlt : k < l.length
    · have hdr : l.drop k = l.getD k 0 :: l.drop (k + 1) := by
        rw [List.drop_eq_getElem_cons hlt]; simp [List.getD, hlt]
      obtain ⟨c, hc⟩ : ∃ c, c = l.getD k 0 := ⟨_, rfl⟩
      obtain ⟨r, m, hm, hnx, hrc⟩ : ∃ (r : Int) (m : Nat), 1 ≤ m ∧ (Instr.next (.pointer (some ⟨q + 1 + 1, 0, none⟩)) true 0).run Tryz.prog wr = .ok (.tuple #[.bool true, .int .i64 (k : Int), .int .i32 r]) (wr.iterAt (q + 1 + 1) (mk l) (k + m)) ∧ ((c.toNat < 128 ∧ r = (c.toNat : Int) ∧ m = 1) ∨ (128 ≤ c.toNat ∧ 128 ≤ r)) := by
        by_cases ha : (l.getD k 0).toNat < 128
        · exact ⟨_, 1, Nat.le_refl _, next_ascii HIT.out hlt ha _, .inl ⟨by rw [hc]; exact ha, by rw [hc], rfl⟩⟩
        · exact ⟨_, _, Lib.decode_width_pos (mk l) k (by rw [mk_size]; exact hlt), next_any HIT.out hlt _, .inr ⟨by rw [hc]; omega, by exact_mod_cast decode_big (by omega)⟩⟩
      have HI2 := Lib.hid (Lib.iterAt_heap wr (q + 1 + 1) (mk l) k (k + m) HIT.out)
      have HR2 := Lib.hid ((show (wr.iterAt (q + 1 + 1) (mk l) (k + m)).heap[q + 1]? = wr.heap[q + 1]? from iterAt_other _ _ _ _ _ (by omega)).trans HRD.out)
      have HU2 := Lib.hid (up_iterAt HUP.out (show w.heap.size ≤ q + 1 + 1 by omega) (mk l) (k + m))
      rcases num_step n A c (l.drop (k + 1)) r HN.out (by rcases hrc with ⟨h1, h2, _⟩ | h; exact .inl ⟨h1, h2⟩; exact .inr h) with ⟨d, hd, hmost, hstep⟩ | ⟨hbad, hwhy⟩
      · have hasc : c.toNat < 128 ∧ r = (c.toNat : Int) ∧ m = 1 := by
          rcases hrc with h | ⟨_, h⟩
          · exact h
          · rw [digI_big n r h] at hd; omega
        obtain ⟨hc128, hrr, rfl⟩ := hasc
        clear hrr
        have HD := Lib.hid hd
        have HMO := Lib.hid hmost
        have HST := Lib.hid hstep
        have HDR := Lib.hid hdr
        have HC := Lib.hid hc
        clear hd hmost hstep hrc hdr hm hc
        have hq1 : q + 1 < (wr.iterAt (q + 1 + 1) (mk l) (k + 1)).heap.size := lt_of_block HR2.out
        go_wp2_with fail
        refine (take_yes n A r d (q + 1) _ _ HD.out (by omega) HN.out ((Below.heap_alloc _ _ _ hq1).trans HR2.out) (cell_of_block (heap_new rfl) 0) (by omega) HMO.out).mono ?_
        rintro e w' ⟨rfl, w2, kk, hu2, rfl⟩
        have hu3 : Up w w2 := (HU2.out.alloc _).trans hu2
        have hi3 := (hu2.block (q + 1 + 1) (by simp; have := lt_of_block HI2.out; omega)).trans ((Below.heap_alloc _ _ _ (lt_of_block HI2.out)).trans HI2.out)
        have hr3 := (hu2.block (q + 1) (by simp; omega)).trans ((Below.heap_alloc _ _ _ hq1).trans HR2.out)
        have HI3 := Lib.hid hi3
        have HR3 := Lib.hid hr3
        have HU3 := Lib.hid hu3
        clear hu2 hi3 hr3 hu3
        go_wp2_with fail
        go_roundw
        case rel =>
          refine ⟨k + 1, A * n + d, by omega, ?_, ?_, ?_, ?_⟩
          · rw [Below.heap_setCell _ _ _ _ (by simp)]
            exact HI3.out
          · have := Go.Joins.block_setCell (w := w2.drewN kk) (i := 2) HR3.out (.int .u64 ((A : Int) * n + d))
            simpa using this
          · exact Below.setCell (below_drewN HU3.out kk) (p := ⟨q + 1, 2, none⟩) (by show w.heap.size ≤ q + 1; omega) _
          · rw [HNM.out, HDR.out, ← HC.out, HST.out]
        case measure =>
          have h1 : ((w2.drewN kk).setCell ⟨q + 1, 2, none⟩ (Value.int IntKind.u64 (↑A * ↑n + ↑d))).heap[q + 1 + 1]? = some (.stringIter (mk l) (k + 1)) := by
            rw [Below.heap_setCell _ _ _ _ (by simp)]
            exact HI3.out
          rw [iterPos_eq h1, iterPos_eq HIT.out]; omega
      · have HB := Lib.hid hbad
        have HY := Lib.hid hwhy
        have HDR := Lib.hid hdr
        have HC := Lib.hid hc
        clear hbad hwhy hrc hdr hm hc
        have hq1 : q + 1 < (wr.iterAt (q + 1 + 1) (mk l) (k + m)).heap.size := lt_of_block HR2.out
        have hE2 : (wr.iterAt (q + 1 + 1) (mk l) (k + m)).cell? ⟨5, 0, none⟩ = some (.iface et ev) := ((HU2.out).cells.1 _ 0 hEl).trans HE.out
        have HE2 := Lib.hid hE2
        clear hE2
        go_wp2_with fail
        refine (take_no n A r _ (q + 1) _ _ rfl (.iface et ev) (((Up.self _).alloc _).cells.1 _ 0 (lt_of_cell HE2.out) |>.trans HE2.out) HN.out ((Below.heap_alloc _ _ _ hq1).trans HR2.out) (cell_of_block (heap_new rfl) 0) (by omega) HY.out).mono ?_
        rintro e w2 ⟨rfl, hu2⟩
        have hu3 : Up w w2 := (HU2.out.alloc _).trans hu2
        have HU3 := Lib.hid hu3
        clear hu2 hu3
        go_wp2_with fail
        go_ret2
        refine ⟨?_, HU3.out⟩
        rw [show Pl.numGet n l = none by
          unfold Pl.numGet
          split
          · rfl
          · rw [HNM.out, HDR.out, ← HC.out, HB.out]]
        rfl
    · have hnx := next_end (P := Tryz.prog) HIT.out hlt
      have hkl : k = l.length := by omega
      subst hkl
      have hres : Pl.numF n 0 l = some A := by rw [HNM.out, List.drop_length, Pl.numF]
      by_cases hl : l = []
      · subst hl
        have hE' : wr.cell? ⟨5, 0, none⟩ = some (.iface et ev) := ((HUP.out).cells.1 _ 0 hEl).trans HE.out
        have hmk : mk [] = { data := #[] } := rfl
        go_wp2_with fail
        go_quiet (fail)
        go_wp2_with fail
        go_ret2
        refine ⟨rfl, ?_⟩
        exact below_drewN HUP.out _
      · have c2 := cell_of_block HRD.out 2
        have hne : (mk l).toList.isEmpty = false := by rw [mk_toList]; simpa using hl
        go_wp2_with fail
        go_ret2
        exact ⟨by rw [show Pl.numGet n l = some A by simp [Pl.numGet, hl, hres]]; rfl, HUP.out⟩
end Go.Proofs.YtckfgkmfeklcmaaGreatDoor
