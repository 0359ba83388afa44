/- Tokens: the laws Turns, Blanks. -/
import Derived.Test.YtckfgkmfeklcmaaGreatDoorKTokQ
set_option linter.unusedVariables false
set_option linter.unusedSimpArgs false
namespace Go.Proofs.YtckfgkmfeklcmaaGreatDoor
open Go.RowKit Go.Shelf
attribute [local go_sem] Oper.semAt_some

def bl : Nat → List UInt8
  | 0 => []
  | k + 1 => bl k ++ [32, 10]
theorem bl_len (k : Nat) : (bl k).length = 2 * k := by
  induction k with
  | zero => rfl
  | succ k ih => simp [bl, ih]; omega
theorem bl_blank (k : Nat) : ∀ c ∈ bl k, Pl.blankB c = true := by
  induction k with
  | zero => intro c hc; cases hc
  | succ k ih =>
    intro c hc
    simp only [bl, List.mem_append, List.mem_cons, List.mem_nil_iff, or_false] at hc
    rcases hc with hc | rfl | rfl
    · exact ih c hc
    · decide
    · decide

set_option maxRecDepth 100000 in
set_option maxHeartbeats 6400000 in
theorem tokenTurns_any (s : List UInt8) (w : World) (hE : Env w) :
    Calls Tryz.prog 6 #[.string (mk s)] w fun e w' => e = .returned (.bool true) ∧ Up w w' := by
  have HE := Lib.hid hE
  obtain ⟨t, ht⟩ : ∃ t, t = s.take 500 := ⟨_, rfl⟩
  have htl : t.length ≤ 500 := by rw [ht]; simp; omega
  have hsz := mk_size t
  have HT := Lib.hid ht
  clear hE ht
  go_enter Tryz.func6, Tryz.ntmps6
  go_wp2_with fail
  refine (shown_any w HE.out).mono ?_
  rintro e w1 ⟨rfl, hu1⟩
  have HU1 := Lib.hid hu1
  clear hu1
  go_wp2_with fail
  refine (lcut_any s w1).mono ?_
  rintro e w2 ⟨rfl, hu2⟩
  rw [← HT.out]
  have HU2 := Lib.hid (Up.trans HU1.out hu2)
  clear hu2
  go_wp2_with fail
  refine (all_any' t w2 (HE.out.up HU2.out) (by omega)).mono ?_
  rintro e w3 ⟨hp1, hu3⟩
  have HU3 := Lib.hid (Up.trans HU2.out hu3)
  rcases hp1 with ⟨l, v, q1, rfl, q2⟩ | ⟨p, e', q1, rfl⟩
  · obtain ⟨sv, cv, rfl⟩ := q2.slice
    obtain ⟨T, hT⟩ : ∃ T, T = l.flatMap Pl.write := ⟨_, rfl⟩
    have hturn := Pl.turns _ t l (Nat.le_refl _) q1
    have hsm := Pl.all_small _ t l (Nat.le_refl _) q1
    have hsm2 : ∀ x ∈ l, Pl.SmallW 500 x := fun x hx => (hsm.2 x hx).mono htl
    have hwl := writes_len l hsm2
    have hll : l.length ≤ 500 := by omega
    have HW := Lib.hid hturn.1
    have HA := Lib.hid hturn.2.1
    have HS := Lib.hid hsm2
    have Q2 := Lib.hid q2
    have HWL := Lib.hid hwl
    clear hturn hsm hsm2 q1 q2 hu3 hwl hsz
    go_wp2_with fail
    go_loopw [7, 8, 9, 10] (fun tv i _ _ wr => ∃ k : Nat, k ≤ l.length ∧ tv = .string (mk ((l.take k).flatMap Pl.write)) ∧ i = .int .i64 (k : Int) ∧ Up w wr ∧ Up w3 wr) (fun _ i _ _ _ => l.length - (intOf i).toNat)
    case atStart => exact ⟨0, Nat.zero_le _, rfl, rfl, HU3.out, Up.self _⟩
    case round =>
      obtain ⟨k, hk, rfl, rfl, hup, hup3⟩ := hrel
      have HUP := Lib.hid hup
      have HUP3 := Lib.hid hup3
      clear hup hup3
      by_cases hlt : k < l.length
      · obtain ⟨a0, c0, hae, hcs⟩ := (Q2.out.reads).up HUP3.out
        obtain ⟨g1, o1, s1, ha, d1, d2, d3, d4, d5⟩ := hcs k hlt
        injection hae with h1 h2 h3
        subst h1
        subst ha
        obtain ⟨x, hx⟩ : ∃ x, x = l.getD k Pl.tok0 := ⟨_, rfl⟩
        rw [← hx] at d1 d2 d4 d5
        have hm : x ∈ l := by rw [hx]; simp [List.getD, hlt]
        have hput : putTV x = .tuple #[.string (mk (Pl.write x)), .int .i64 0] := by unfold putTV; rw [HW.out x hm]
        have hsx := smallT_of (HS.out x hm)
        have htk : l.take (k + 1) = l.take k ++ [x] := by
          rw [List.take_succ_eq_append_getElem hlt]
          have : l[k] = x := by rw [hx]; simp [List.getD, hlt]
          rw [this]
        have hl1 : ((l.take k).flatMap Pl.write).length ≤ 130242500 := by
          have h4 := writes_len (l.take k) (fun y hy => HS.out y (List.mem_of_mem_take hy))
          have h5 : (l.take k).length ≤ 500 := by rw [List.length_take]; omega
          have h6 : (l.take k).length * 260485 ≤ 500 * 260485 := Nat.mul_le_mul_right _ h5
          exact Nat.le_trans h4 h6
        have hl2 : (Pl.write x).length ≤ 260485 := write_lenW (HS.out x hm)
        have n1 : ¬ 9223372036854775807 < (mk ((l.take k).flatMap Pl.write)).size + (mk (Pl.write x)).size := by rw [mk_size, mk_size]; omega
        have k1 : mk ((l.take k).flatMap Pl.write) ++ mk (Pl.write x) = mk ((l.take (k + 1)).flatMap Pl.write) := by rw [mk_app, htk]; simp
        have D5 := Lib.hid d5
        clear hcs d5 h2 h3 hm htk hx hl1 hl2
        go_wp2_with fail
        refine (putT_any _ x wr (HE.out.up HUP.out) ⟨s1, rfl, D5.out⟩ hsx).mono ?_
        rintro e w5 ⟨rfl, hu5⟩
        rw [hput]
        have HU5 := Lib.hid (Up.trans HUP.out hu5)
        have HU53 := Lib.hid (Up.trans HUP3.out hu5)
        clear hu5 d1 d2 d3 d4
        go_wp2_with fail
        go_roundw
        case rel => exact ⟨k + 1, by omega, rfl, by go_num, HU5.out, HU53.out⟩
        case measure => simp [intOf]; omega
      · have hk1 : k = l.length := by omega
        subst hk1
        have htk : l.take l.length = l := List.take_length
        rw [htk, ← hT]
        have HA2 := HA.out
        rw [← hT] at HA2
        have HA3 := Lib.hid HA2
        have hTl : T.length ≤ 200000000 := by rw [hT]; have := HWL.out; omega
        clear HA2 htk hT hlt
        go_wp2_with fail
        refine (all_any' T wr (HE.out.up HUP.out) hTl).mono ?_
        rintro e w6 ⟨hp, hu6⟩
        obtain ⟨v6, rfl, t6⟩ := hp.ok HA3.out
        obtain ⟨s6, c6, rfl⟩ := t6.slice
        have x1 := ((Q2.out.up HUP3.out).up hu6).reads
        have hLL : l.length ≤ 1000000000 := by omega
        have hSM : ∀ x ∈ l, x.attrs.length ≤ 1000000000 := fun x hx => by have := (HS.out x hx).2.2.1; omega
        have x4 := refList_any _ _ _ _ _ x1 t6.reads hLL hLL hSM hSM
        have hde : decide (l = l) = true := by simp
        rw [hde] at x4
        have RL := Lib.hid x4
        have HU6 := Lib.hid (Up.trans HUP.out hu6)
        clear x1 x4 hde hp hu6 t6 hSM
        go_wp2_with fail
        refine RL.out.mono ?_
        rintro e w9 ⟨rfl, hu9⟩
        have U9 := Lib.hid (Up.trans HU6.out hu9)
        clear hu9
        go_wp2_with fail
        go_ret
        exact ⟨rfl, U9.out⟩
  · have hne : (e' != 0) = true := by have := (Pl.all_place _ t p e' (Nat.le_refl _) q1).2; simpa using this
    have hpl : (p : Int) ≤ (t.length : Int) := by have := (Pl.all_place _ t p e' (Nat.le_refl _) q1).1; omega
    have hp0 : (0 : Int) ≤ (p : Int) := by omega
    clear q1 hu3
    go_wp2_with fail
    refine (lcut_any s w3).mono ?_
    rintro e w4 ⟨rfl, hu4⟩
    rw [← HT.out]
    have HU4 := Lib.hid (Up.trans HU3.out hu4)
    clear hu4
    go_wp2_with fail
    go_ret
    exact ⟨rfl, HU4.out⟩
end Go.Proofs.YtckfgkmfeklcmaaGreatDoor
