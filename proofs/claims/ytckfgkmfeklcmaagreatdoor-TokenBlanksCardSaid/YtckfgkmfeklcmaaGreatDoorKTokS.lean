/- Tokens: the law Blanks. -/
import Derived.Test.YtckfgkmfeklcmaaGreatDoorKTokR
import Derived.Test.YtckfgkmfeklcmaaGreatDoorGM
set_option linter.unusedVariables false
set_option linter.unusedSimpArgs false
namespace Go.Proofs.YtckfgkmfeklcmaaGreatDoor
open Go.RowKit Go.Shelf
attribute [local go_sem] Oper.semAt_some

set_option maxRecDepth 100000 in
set_option maxHeartbeats 6400000 in
theorem tokenBlanks_any (u : Value) (x : Pl.Tok) (n : Int) (w : World) (hE : Env w) (h : TokIn w u x) :
    Calls Tryz.prog 5 #[u, .int .i64 n] w fun e w' => e = .returned (.bool true) ∧ Up w w' := by
  have HF := Lib.hid (fun w' (hu : Up w w') => few_any u x w' (h.up hu))
  have HE := Lib.hid hE
  obtain ⟨v, rfl, ha⟩ := h
  unfold tokV at HF ⊢
  have hA := ha
  obtain ⟨s1, cap1, hv, _⟩ := hA
  subst hv
  clear ha hE
  go_enter Tryz.func5, Tryz.ntmps5
  go_wp2_with fail
  obtain ⟨W0, hW0⟩ : ∃ W0, W0 = w.alloc (.cells #[.int .i64 x.kind, .string (mk x.name), .slice s1 x.attrs.length cap1, .string (mk x.text)] 24) := ⟨_, rfl⟩
  rw [← hW0]
  have hu0 : Up w W0 := by rw [hW0]; exact (Up.self w).alloc _
  have hb0 : W0.heap[w.heap.size]? = some (.cells #[.int .i64 x.kind, .string (mk x.name), .slice s1 x.attrs.length cap1, .string (mk x.text)] 24 (0, 0)) := by rw [hW0]; exact heap_new rfl
  refine (shown_any W0 (HE.out.up hu0)).mono ?_
  rintro e w1 ⟨rfl, hu1⟩
  have hb1 := (hu1.block _ (lt_of_block hb0)).trans hb0
  have HU1 := Lib.hid (Up.trans hu0 hu1)
  have HB1 := Lib.hid hb1
  have x0 := cell_of_block hb1 0
  have x1 := cell_of_block hb1 1
  have x2 := cell_of_block hb1 2
  have x3 := cell_of_block hb1 3
  clear hW0 hu0 hb0 hu1 hb1
  go_wp2_with fail
  refine (HF.out w1 HU1.out).mono ?_
  rintro e w2 ⟨⟨v2, rfl, ha2⟩, hu2⟩
  have hb2 := (hu2.block _ (lt_of_block HB1.out)).trans HB1.out
  obtain ⟨sv, capv, rfl, _⟩ := id ha2.reads
  obtain ⟨y, hy⟩ : ∃ y, y = few x := ⟨_, rfl⟩
  rw [← hy] at ha2
  have hsm : SmallT y := by rw [hy]; exact few_small x
  have hyl : y.attrs.length ≤ 22 := by rw [hy]; exact few_attrs x
  rw [← hy]
  have hbl : w.heap.size ≤ w.heap.size := Nat.le_refl _
  have hb3 := set4_at hb2 (.int .i64 y.kind) (.string (mk y.name)) (.slice sv y.attrs.length capv) (.string (mk y.text))
  have hu3 := set4_up (.int .i64 y.kind) (.string (mk y.name)) (.slice sv y.attrs.length capv) (.string (mk y.text)) (Up.trans HU1.out hu2) hbl
  have ha3 : AttrsAt (set4 w2 w.heap.size (.int .i64 y.kind) (.string (mk y.name)) (.slice sv y.attrs.length capv) (.string (mk y.text))) (.slice sv y.attrs.length capv) y.attrs := by
    obtain ⟨base, hrow⟩ := ha2
    exact ⟨base, row_keeps hrow (fun g c hg => by
      rw [set4_else _ _ _ _ (fun e => by subst e; rw [hb2] at hg; injection hg with e; injection e with _ e _; exact absurd e (by decide))]; exact hg)⟩
  have y0 := cell_of_block hb2 0
  have y1 := cell_of_block hb2 1
  have y2 := cell_of_block hb2 2
  have y3 := cell_of_block hb2 3
  have f0 := frozen_of_block hb2 0
  have f1 := frozen_of_block hb2 1
  have f2 := frozen_of_block hb2 2
  have f3 := frozen_of_block hb2 3
  obtain ⟨W3, hW3⟩ : ∃ W3, W3 = set4 w2 w.heap.size (.int .i64 y.kind) (.string (mk y.name)) (.slice sv y.attrs.length capv) (.string (mk y.text)) := ⟨_, rfl⟩
  rw [← hW3] at hb3 hu3 ha3
  have HB3 := Lib.hid hb3
  have HU3 := Lib.hid hu3
  have HA3 := Lib.hid ha3
  have HW3 := Lib.hid hW3
  have z0 := cell_of_block hb3 0
  have z1 := cell_of_block hb3 1
  have z2 := cell_of_block hb3 2
  have z3 := cell_of_block hb3 3
  rw [hW3] at z0 z1 z2 z3
  unfold set4 at z0 z1 z2 z3
  clear hb2 hb3 hu3 ha3 hW3 hu2 ha2 x0 x1 x2 x3 hy HF HB1 HU1
  go_wp2_with fail
  rw [show (((w2.setCell ⟨w.heap.size, 0, none⟩ (.int .i64 y.kind)).setCell ⟨w.heap.size, 1, none⟩ (.string (mk y.name))).setCell ⟨w.heap.size, 2, none⟩ (.slice sv y.attrs.length capv)).setCell ⟨w.heap.size, 3, none⟩ (.string (mk y.text)) = W3 from HW3.out.symm]
  refine (putT_any _ y W3 (HE.out.up HU3.out) ⟨_, rfl, HA3.out.reads⟩ hsm).mono ?_
  rintro e w4 ⟨rfl, hu4⟩
  have hb4 := (hu4.block _ (lt_of_block HB3.out)).trans HB3.out
  have HU4 := Lib.hid (Up.trans HU3.out hu4)
  have HA4 := Lib.hid (HA3.out.up hu4)
  have HB4 := Lib.hid hb4
  have hwl := write_len hsm
  have k0 := cell_of_block hb4 0
  clear z0 z1 z2 z3 y0 y1 y2 y3 f0 f1 f2 f3 HA3 HB3 HW3 HU3 hu4 hb4
  unfold putTV
  cases hp : Pl.putT y with
  | none =>
    clear hp hwl
    go_wp2_with fail
    all_goals go_ret
    all_goals exact ⟨rfl, HU4.out⟩
  | some a =>
    obtain ⟨ha1, ha2⟩ := putT_is hp
    have hal : a.length ≤ 100000000 := by rw [ha1]; exact hwl
    have HP := Lib.hid hp
    have hsz := mk_size a
    clear hp hwl ha1 ha2
    by_cases hn0 : n < 0
    · go_wp2_with fail
      go_ret
      exact ⟨rfl, HU4.out⟩
    by_cases hn20 : 20 < n
    · go_wp2_with fail
      go_ret
      exact ⟨rfl, HU4.out⟩
    by_cases hk4 : y.kind = 4
    · have hb : (y.kind == 4) = true := by simpa using hk4
      go_wp2_with fail
      all_goals go_ret
      all_goals exact ⟨rfl, HU4.out⟩
    have hb : (y.kind == 4) = false := by simpa using hk4
    by_cases hl3 : a.length < 3
    · go_wp2_with fail
      go_ret
      exact ⟨rfl, HU4.out⟩
    obtain ⟨N, hN⟩ : ∃ N : Nat, n = (N : Int) := ⟨n.toNat, by omega⟩
    subst hN
    have hN20 : N ≤ 20 := by omega
    go_wp2_with fail
    go_loopw [8, 9] (fun bv iv wr => ∃ k : Nat, k ≤ N ∧ bv = .string (mk (bl k)) ∧ iv = .int .i64 (k : Int) ∧ wr = w4) (fun _ iv _ => N - (intOf iv).toNat)
    case atStart => exact ⟨0, Nat.zero_le _, rfl, rfl, rfl⟩
    case round =>
      obtain ⟨k, hk, rfl, rfl, rfl⟩ := hrel
      by_cases hlt : k < N
      · have n1 : ¬ 9223372036854775807 < (mk (bl k)).size + 2 := by rw [mk_size, bl_len]; omega
        have k1 : mk (bl k) ++ ({ data := #[32, 10] } : ByteArray) = mk (bl (k + 1)) := by rw [show ({ data := #[32, 10] } : ByteArray) = mk [32, 10] from rfl, mk_app]; rfl
        go_wp2_with fail
        go_roundw
        case rel => exact ⟨k + 1, by omega, rfl, by go_num, by first | rfl | trivial⟩
        case measure => simp [intOf]; omega
      · have hkN : k = N := by omega
        subst hkN
        have hend : ∃ E : Nat, Pl.endL y = E ∧ (E = 1 ∨ E = 2) ∧ (E = 2 ↔ y.kind = 3) := by
          unfold Pl.endL
          by_cases h3 : y.kind = 3
          · exact ⟨2, by rw [if_pos h3], .inr rfl, by simp [h3]⟩
          · exact ⟨1, by rw [if_neg h3], .inl rfl, by simp [h3]⟩
        obtain ⟨E, hE1, hE2, hE3⟩ := hend
        obtain ⟨q, hq⟩ : ∃ q : Nat, q = a.length - E := ⟨_, rfl⟩
        have hqi : (a.length : Int) - (E : Int) = (q : Int) := by omega
        have hql : q ≤ a.length := by omega
        have hx1 : (mk a).extract 0 q = mk (a.take q) := by rw [mk_cut, List.drop_zero]
        have hx2 : (mk a).extract q a.length = mk (a.drop q) := by rw [mk_cut, List.take_length]
        obtain ⟨B1, hB1⟩ : ∃ B1, B1 = a.take q ++ bl k := ⟨_, rfl⟩
        obtain ⟨B, hB⟩ : ∃ B, B = B1 ++ a.drop q := ⟨_, rfl⟩
        have n1 : ¬ 9223372036854775807 < (mk (a.take q)).size + (mk (bl k)).size := by rw [mk_size, mk_size, bl_len, List.length_take]; omega
        have k1 : mk (a.take q) ++ mk (bl k) = mk B1 := by rw [mk_app, hB1]
        have hB1l : B1.length ≤ 100000040 := by rw [hB1, List.length_append, bl_len, List.length_take]; omega
        have hdl : (a.drop q).length ≤ 2 := by rw [List.length_drop]; omega
        have n2 : ¬ 9223372036854775807 < (mk B1).size + (mk (a.drop q)).size := by rw [mk_size, mk_size]; omega
        have k2 : mk B1 ++ mk (a.drop q) = mk B := by rw [mk_app, hB]
        have hBl : B.length ≤ 100000042 := by rw [hB, List.length_append]; omega
        have hszB := mk_size B
        have htok : Pl.tokP B = .ok y [] := by
          have := Pl.blanksIn HP.out hk4 (bl k) (bl_blank k)
          rw [hE1, ← hq] at this
          rw [hB, hB1]; exact this
        have HTOK := Lib.hid htok
        have HBL := Lib.hid hBl
        clear htok hBl hdl hB1l hB hB1 hE1 hq hlt hn0 hn20 hk hl3
        by_cases h3 : y.kind = 3
        · have hE4 : E = 2 := hE3.2 h3
          subst hE4
          have hb3 : (y.kind == 3) = true := by simpa using h3
          have hq2 : (a.length : Int) - 2 = (q : Int) := by omega
          clear hqi
          clear hE2 hE3 h3
          go_wp2_with fail
          go_quiet (fail)
          have HUD := Lib.hid (below_drewN HU4.out nq)
          have hbD : (wr.drewN nq).heap[w.heap.size]? = _ := (Up.trans (Up.self wr) (below_drewN (Up.self wr) nq)).block _ (lt_of_block HB4.out) |>.trans HB4.out
          have HBD := Lib.hid hbD
          have HAD := Lib.hid (HA4.out.up (below_drewN (Up.self wr) nq))
          clear hbD
          go_wp2_with fail
          refine (next_any' B (wr.drewN nq) (HE.out.up HUD.out) (by have := HBL.out; omega)).mono ?_
          rintro e w6 ⟨hp, hu6⟩
          obtain ⟨v6, rfl, ha6⟩ := hp.ok HTOK.out
          have hn6 : ((B.length : Int) - ([] : List UInt8).length) = (B.length : Int) := by simp
          rw [hn6]
          obtain ⟨base6, row6⟩ := id ha6
          obtain ⟨s6, cap6, rfl⟩ := row_slice row6
          have hb6 := (hu6.block _ (lt_of_block HBD.out)).trans HBD.out
          have HU6 := Lib.hid (Up.trans HUD.out hu6)
          have HA6 := Lib.hid (HAD.out.up hu6)
          have HA6' := Lib.hid ha6
          have hl6 : w.heap.size < w6.heap.size := lt_of_block hb6
          have x0 := cell_of_block hb6 0
          have x1 := cell_of_block hb6 1
          have x2 := cell_of_block hb6 2
          have x3 := cell_of_block hb6 3
          unfold tokV
          clear hp hu6 ha6 hn6 row6 hb6 k0
          go_wp2_with fail
          refine (same_any _ _ y y _ ⟨_, rfl, (HA6.out.reads).up ((Up.self _).alloc _)⟩ ⟨_, rfl, (HA6'.out.reads).up ((Up.self _).alloc _)⟩ (by omega) (by omega)).mono ?_
          rintro e w7 ⟨rfl, hu7⟩
          have HU7 := Lib.hid (Up.trans (HU6.out.alloc _) hu7)
          rw [decide_eq_true rfl]
          clear hu7 x0 x1 x2 x3
          go_wp2_with fail
          go_ret
          exact ⟨rfl, HU7.out⟩
        · have hE4 : E = 1 := by rcases hE2 with h | h; exact h; exact absurd (hE3.1 h) h3
          subst hE4
          have hb3 : (y.kind == 3) = false := by simpa using h3
          have hq2 : (a.length : Int) - 1 = (q : Int) := by omega
          clear hqi
          clear hE2 hE3 h3
          go_wp2_with fail
          go_quiet (fail)
          have HUD := Lib.hid (below_drewN HU4.out nq)
          have hbD : (wr.drewN nq).heap[w.heap.size]? = _ := (Up.trans (Up.self wr) (below_drewN (Up.self wr) nq)).block _ (lt_of_block HB4.out) |>.trans HB4.out
          have HBD := Lib.hid hbD
          have HAD := Lib.hid (HA4.out.up (below_drewN (Up.self wr) nq))
          clear hbD
          go_wp2_with fail
          refine (next_any' B (wr.drewN nq) (HE.out.up HUD.out) (by have := HBL.out; omega)).mono ?_
          rintro e w6 ⟨hp, hu6⟩
          obtain ⟨v6, rfl, ha6⟩ := hp.ok HTOK.out
          have hn6 : ((B.length : Int) - ([] : List UInt8).length) = (B.length : Int) := by simp
          rw [hn6]
          obtain ⟨base6, row6⟩ := id ha6
          obtain ⟨s6, cap6, rfl⟩ := row_slice row6
          have hb6 := (hu6.block _ (lt_of_block HBD.out)).trans HBD.out
          have HU6 := Lib.hid (Up.trans HUD.out hu6)
          have HA6 := Lib.hid (HAD.out.up hu6)
          have HA6' := Lib.hid ha6
          have hl6 : w.heap.size < w6.heap.size := lt_of_block hb6
          have x0 := cell_of_block hb6 0
          have x1 := cell_of_block hb6 1
          have x2 := cell_of_block hb6 2
          have x3 := cell_of_block hb6 3
          unfold tokV
          clear hp hu6 ha6 hn6 row6 hb6 k0
          go_wp2_with fail
          refine (same_any _ _ y y _ ⟨_, rfl, (HA6.out.reads).up ((Up.self _).alloc _)⟩ ⟨_, rfl, (HA6'.out.reads).up ((Up.self _).alloc _)⟩ (by omega) (by omega)).mono ?_
          rintro e w7 ⟨rfl, hu7⟩
          have HU7 := Lib.hid (Up.trans (HU6.out.alloc _) hu7)
          rw [decide_eq_true rfl]
          clear hu7 x0 x1 x2 x3
          go_wp2_with fail
          go_ret
          exact ⟨rfl, HU7.out⟩
end Go.Proofs.YtckfgkmfeklcmaaGreatDoor
