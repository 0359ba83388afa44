/- The texts TokN, TokP of this claim in one: the walks and plain laws that the statement's proof rests on. -/
import Derived.Test.YtckfgkmfeklcmaaGreatDoorGL
import Derived.StillTailTactics
set_option linter.unusedVariables false
set_option linter.unusedSimpArgs false
/- Tokens: the law's Few. -/
namespace Go.Proofs.YtckfgkmfeklcmaaGreatDoor
open Go.RowKit Go.Shelf
attribute [local go_sem] Oper.semAt_some
attribute [-go_sem] Builtin.append_

/-- a stretch of code that ends in one way: what follows is walked once -/
def viaPost (a1 : Act) (w1 : World) : Exit → Act → World → Prop
  | .normal, a', w' => a' = a1 ∧ w' = w1
  | _, _, _ => False
theorem wp_via {P : Program} {c : Code} {Q : Exit → Act → World → Prop} {a : Act} {w : World} (a1 : Act) (w1 : World) (h : c.wp P (viaPost a1 w1) a w) (k : Q .normal a1 w1) : c.wp P Q a w :=
  Code.wp_mono (fun e a' w' hv => by
    cases e with
    | normal => obtain ⟨rfl, rfl⟩ := hv; exact k
    | _ => exact hv.elim) h
theorem own_ne {w : World} {M n e size b T : Nat} {v : Value} {xs : List Value} {c : Array Value} (h : w.ownsRow M e size v n xs) (hb : w.heap[b]? = some (.cells c T (0, 0))) (hne : T ≠ e) : some b ≠ v.ownBlock := fun q => by
  rcases h.2 with ⟨hv, _⟩ | ⟨g, cap, cur, hv, _, hg, _⟩
  · rw [hv] at q; simp [Value.ownBlock] at q
  · rw [hv] at q
    simp [Value.ownBlock] at q
    subst q
    rw [hb] at hg; injection hg with q; injection q with _ q _; exact hne q
theorem kept_row {w w' : World} {M n e size b T : Nat} {v : Value} {xs : List Value} {c : Array Value} (h : w.ownsRow M e size v n xs) (hg : w.grownBy w' v.ownBlock) (hb : w.heap[b]? = some (.cells c T (0, 0))) (hne : T ≠ e) : w'.heap[b]? = some (.cells c T (0, 0)) := by
  rw [hg.block b (Array.getElem?_eq_some_iff.1 hb).1 (own_ne h hb hne)]; exact hb
def set4 (w : World) (b : Nat) (v0 v1 v2 v3 : Value) : World := (((w.setCell ⟨b, 0, none⟩ v0).setCell ⟨b, 1, none⟩ v1).setCell ⟨b, 2, none⟩ v2).setCell ⟨b, 3, none⟩ v3
theorem set4_at {w : World} {b T : Nat} {c0 c1 c2 c3 : Value} (h : w.heap[b]? = some (.cells #[c0, c1, c2, c3] T (0, 0))) (v0 v1 v2 v3 : Value) : (set4 w b v0 v1 v2 v3).heap[b]? = some (.cells #[v0, v1, v2, v3] T (0, 0)) :=
  heap_setCell_at (i := 3) (heap_setCell_at (i := 2) (heap_setCell_at (i := 1) (heap_setCell_at (i := 0) h)))
theorem set4_else {w : World} {b k : Nat} (v0 v1 v2 v3 : Value) (h : k ≠ b) : (set4 w b v0 v1 v2 v3).heap[k]? = w.heap[k]? := by
  unfold set4
  rw [Below.heap_setCell _ _ _ _ h, Below.heap_setCell _ _ _ _ h, Below.heap_setCell _ _ _ _ h, Below.heap_setCell _ _ _ _ h]
theorem set4_up {w0 w : World} {b : Nat} (v0 v1 v2 v3 : Value) (h : Up w0 w) (hb : w0.heap.size ≤ b) : Up w0 (set4 w b v0 v1 v2 v3) :=
  Below.setCell (Below.setCell (Below.setCell (Below.setCell h (p := ⟨b, 0, none⟩) hb _) (p := ⟨b, 1, none⟩) hb _) (p := ⟨b, 2, none⟩) hb _) (p := ⟨b, 3, none⟩) hb _
def fewA (a : List UInt8 × List UInt8) : List UInt8 × List UInt8 := (a.1.take 410, a.2.take 410)
def few (x : Pl.Tok) : Pl.Tok := ⟨x.kind, x.name.take 410, (x.attrs.take 22).map fewA, x.text.take 410⟩
theorem few_small (x : Pl.Tok) : SmallT (few x) := by
  refine ⟨?_, ?_, ?_, ?_⟩
  · simp [few]; omega
  · simp [few]; omega
  · simp [few]; omega
  · intro a ha
    simp only [few, List.mem_map] at ha
    obtain ⟨b, _, rfl⟩ := ha
    simp [fewA]; omega

set_option maxRecDepth 100000 in
set_option maxHeartbeats 6400000 in
theorem few_any (u : Value) (x : Pl.Tok) (w : World) (h : TokIn w u x) :
    Calls Tryz.prog 9 #[u] w fun e w' => (∃ v, e = .returned (tokV (few x) v) ∧ AttrsAt w' v (few x).attrs) ∧ Up w w' := by
  obtain ⟨i0, hi, hz0, hz1, hz2⟩ := info_parts Tryz.infoAttr
  obtain ⟨v, rfl, ha⟩ := h
  obtain ⟨kind, name, l, text⟩ := x
  simp only at *
  have hA := ha
  obtain ⟨s1, cap1, rfl, _⟩ := hA
  have A := Lib.hid ha
  have hsn := mk_size name
  have hst := mk_size text
  have hexn := mk_min name 410
  have hext := mk_min text 410
  have hmn : min (name.length : Int) 410 = ((min name.length 410 : Nat) : Int) := by omega
  have hmt : min (text.length : Int) 410 = ((min text.length 410 : Nat) : Int) := by omega
  have hln : min name.length 410 ≤ name.length := by omega
  have hlt : min text.length 410 ≤ text.length := by omega
  unfold tokV
  clear ha
  go_enter Tryz.func9, Tryz.ntmps9
  go_wp2_with fail
  obtain ⟨W0, hW0⟩ : ∃ W0, W0 = (w.alloc (.cells #[.int .i64 kind, .string (mk name), .slice s1 l.length cap1, .string (mk text)] 24)).alloc (.cells #[.int .i64 0, .string ⟨#[]⟩, .slice none 0 0, .string ⟨#[]⟩] 24) := ⟨_, rfl⟩
  have hu0 : Up w W0 := by rw [hW0]; exact ((Up.self w).alloc _).alloc _
  have hx0 : W0.heap[w.heap.size]? = some (.cells #[.int .i64 kind, .string (mk name), .slice s1 l.length cap1, .string (mk text)] 24 (0, 0)) := by rw [hW0, Below.heap_alloc _ _ _ (by simp)]; exact heap_new rfl
  have hr0 : W0.heap[w.heap.size + 1]? = some (.cells #[.int .i64 0, .string ⟨#[]⟩, .slice none 0 0, .string ⟨#[]⟩] 24 (0, 0)) := by rw [hW0]; exact heap_new (by simp)
  have hs0 : W0.heap.size = w.heap.size + 2 := by rw [hW0]; simp
  rw [← hW0]
  have x0 := cell_of_block hx0 0
  have x1 := cell_of_block hx0 1
  have x3 := cell_of_block hx0 3
  have hlt0 := lt_of_block hx0
  have HX0 := Lib.hid hx0
  have HR0 := Lib.hid hr0
  have HU0 := Lib.hid hu0
  clear hW0 hx0 hr0 hu0
  apply wp_via
  case h =>
    go_big_region
    exact ⟨rfl, rfl⟩
  obtain ⟨W1, hW1⟩ : ∃ W1, W1 = (W0.alloc (.cells #[.int .i64 kind, .string (mk (name.take 410)), .slice none 0 0, .string (mk (text.take 410))] 24)).drew := ⟨_, rfl⟩
  rw [← hW1]
  have hu1 : Up W0 W1 := by rw [hW1]; exact ((Up.self _).alloc _).drew
  have HX1 := Lib.hid ((hu1.block _ (lt_of_block HX0.out)).trans HX0.out)
  have HR1 := Lib.hid ((hu1.block _ (lt_of_block HR0.out)).trans HR0.out)
  have HO1 := Lib.hid (show W1.heap[w.heap.size + 2]? = some (.cells #[.int .i64 kind, .string (mk (name.take 410)), .slice none 0 0, .string (mk (text.take 410))] 24 (0, 0)) by rw [hW1]; show (W0.alloc _).heap[_]? = _; exact heap_new (by omega))
  have HU1 := Lib.hid (Up.trans HU0.out hu1)
  clear hW1 hu1 HX0 HR0 HU0 x0 x1 x3 hsn hst hexn hext hmn hmt hln hlt hlt0 hs0
  go_wp2_with fail
  go_loopw [4, 5] (fun i _ wr => ∃ (k : Nat) (v3 : Value), k ≤ l.length ∧ k ≤ 22 ∧ i = .int .i64 (k : Int) ∧ wr.heap[w.heap.size + 2]? = some (.cells #[.int .i64 kind, .string (mk (name.take 410)), v3, .string (mk (text.take 410))] 24 (0, 0)) ∧
    wr.ownsRow w.heap.size 43 2 v3 k (va ((l.take k).map fewA)) ∧ wr.heap[w.heap.size]? = some (.cells #[.int .i64 kind, .string (mk name), .slice s1 l.length cap1, .string (mk text)] 24 (0, 0)) ∧
    wr.heap[w.heap.size + 1]? = some (.cells #[.int .i64 0, .string ⟨#[]⟩, .slice none 0 0, .string ⟨#[]⟩] 24 (0, 0)) ∧ Up w wr) (fun i _ _ => l.length - (intOf i).toNat)
  case atStart => exact ⟨0, _, Nat.zero_le _, Nat.zero_le _, rfl, HO1.out, World.ownsRow_nil _ _ _ _, HX1.out, HR1.out, HU1.out⟩
  case round =>
    obtain ⟨k, v3, hk, hk2, rfl, ho, hrow, hx, hr, hu⟩ := hrel
    obtain ⟨a3, cap3, rfl⟩ := row_slice hrow
    have HO := Lib.hid ho
    have HROW := Lib.hid hrow
    have HX := Lib.hid hx
    have HR := Lib.hid hr
    have HU := Lib.hid hu
    have x2 := cell_of_block hx 2
    clear ho hrow hx hr hu HX1 HR1 HO1 HU1
    by_cases hlt : k < l.length
    · by_cases hlt2 : k < 22
      · obtain ⟨a, ca, hae, hcs⟩ := A.out
        obtain ⟨g, o, ha, p1, p2⟩ := hcs k hlt
        injection hae with h1 h2 h3
        subst h1
        subst ha
        have e1 := (HU.out.cells.1 _ _ (lt_of_cell p1)).trans p1
        have e2 := (HU.out.cells.1 _ _ (lt_of_cell p1)).trans p2
        obtain ⟨p, hp⟩ : ∃ p, p = l.getD k ([], []) := ⟨_, rfl⟩
        rw [← hp] at e1 e2
        have HP := Lib.hid hp
        clear hcs p1 p2 hp h2 h3
        go_wp2_with fail
        obtain ⟨W1, hW1⟩ : ∃ W1, W1 = wr.alloc (.cells #[.string (mk p.1), .string (mk p.2)] 43) := ⟨_, rfl⟩
        rw [← hW1]
        have hb1 : W1.heap[wr.heap.size]? = some (.cells #[.string (mk p.1), .string (mk p.2)] 43 (0, 0)) := by rw [hW1]; exact heap_new rfl
        have hu1 : Up wr W1 := by rw [hW1]; exact (Up.self wr).alloc _
        have ho1 := (hu1.block _ (lt_of_block HO.out)).trans HO.out
        have d0 := cell_of_block hb1 0
        have d1 := cell_of_block hb1 1
        have y2 := cell_of_block ho1 2
        have hs1 := mk_size p.1
        have hs2 := mk_size p.2
        have hex1 := mk_min p.1 410
        have hex2 := mk_min p.2 410
        have hm1 : min (p.1.length : Int) 410 = ((min p.1.length 410 : Nat) : Int) := by omega
        have hm2 : min (p.2.length : Int) 410 = ((min p.2.length 410 : Nat) : Int) := by omega
        have hl1 : min p.1.length 410 ≤ p.1.length := by omega
        have hl2 : min p.2.length 410 ≤ p.2.length := by omega
        have hbl3 : w.heap.size + 2 < W1.heap.size := lt_of_block ho1
        have hbl4 : wr.heap.size < W1.heap.size := lt_of_block hb1
        have hMW : w.heap.size ≤ W1.heap.size := by omega
        have hrow1 : W1.ownsRow w.heap.size 43 2 (.slice a3 k cap3) k (va ((l.take k).map fewA)) := row_keeps HROW.out fun g _ hg => (hu1.block g (lt_of_block hg)).trans hg
        obtain ⟨W2, hW2⟩ : ∃ W2, W2 = (W1.alloc (.cells #[.string (mk (p.1.take 410)), .string (mk (p.2.take 410))] 43)).drew := ⟨_, rfl⟩
        have hb2 : W2.heap[W1.heap.size]? = some (.cells #[.string (mk (p.1.take 410)), .string (mk (p.2.take 410))] 43 (0, 0)) := by rw [hW2]; exact heap_new rfl
        have hu2 : Up W1 W2 := by rw [hW2]; exact ((Up.self _).alloc _).drew
        have hrow2 : W2.ownsRow w.heap.size 43 2 (.slice a3 k cap3) k (va ((l.take k).map fewA)) := row_keeps hrow1 fun g _ hg => (hu2.block g (lt_of_block hg)).trans hg
        obtain ⟨v7, w7, happ, hown, hg, _⟩ := run_append_own (P := Tryz.prog) W2 w.heap.size 22 22 43 i0 (.agg #[.string ⟨#[]⟩, .string ⟨#[]⟩]) 2 32 Tryz.underlying22 hi hz0 hz1 hz2 rfl (by decide) (.slice a3 k cap3) k _ hrow2 ⟨W1.heap.size, 0, none⟩ 1 1 [.string (mk (p.1.take 410)), .string (mk (p.2.take 410))] rfl (by
            intro j u hj
            match j, hj with
            | 0, hj =>
              have e : u = .string (mk (p.1.take 410)) := by simpa using hj.symm
              rw [e]; exact cell_of_block hb2 0
            | 1, hj =>
              have e : u = .string (mk (p.2.take 410)) := by simpa using hj.symm
              rw [e]; exact cell_of_block hb2 1
            | j + 2, hj => simp at hj) (by simp [Value.oneCell']) (by unfold maxLen; omega) (by omega) (Nat.le_trans hMW hu2.size)
        have ho2 := (hu2.block _ (lt_of_block ho1)).trans ho1
        have ho7 : w7.heap[w.heap.size + 2]? = some (.cells #[.int .i64 kind, .string (mk (name.take 410)), .slice a3 k cap3, .string (mk (text.take 410))] 24 (0, 0)) := by
          exact kept_row hrow2 hg ho2 (by decide)
        obtain ⟨g8, cap8, rfl⟩ := row_slice hown
        have y7 := cell_of_block ho7 2
        have f7 := frozen_of_block ho7 2
        rw [hW2] at happ
        have hx2 := (hu2.block _ (lt_of_block ((hu1.block _ (lt_of_block HX.out)).trans HX.out))).trans ((hu1.block _ (lt_of_block HX.out)).trans HX.out)
        have hr2 := (hu2.block _ (lt_of_block ((hu1.block _ (lt_of_block HR.out)).trans HR.out))).trans ((hu1.block _ (lt_of_block HR.out)).trans HR.out)
        have HX7 := Lib.hid (kept_row hrow2 hg hx2 (by decide))
        have HR7 := Lib.hid (kept_row hrow2 hg hr2 (by decide))
        have HU7 := Lib.hid (show Up w w7 from Below.grown (Up.trans (Up.trans HU.out hu1) hu2) hg (Nat.le_trans HU.out.size (Nat.le_trans hu1.size hu2.size)) (fun k hk => (hrow2.lt k hk).1))
        have HO7 := Lib.hid ho7
        have HOWN := Lib.hid hown
        clear hW1 hb1 ho1 hW2 hb2 ho2 hrow1 ho7 hown
        apply wp_via
        case h =>
          go_big_region
          exact ⟨rfl, rfl⟩
        have ho8 : (w7.setCell ⟨w.heap.size + 2, 2, none⟩ (.slice g8 (k + 1) cap8)).heap[w.heap.size + 2]? = some (.cells #[.int .i64 kind, .string (mk (name.take 410)), .slice g8 (k + 1) cap8, .string (mk (text.take 410))] 24 (0, 0)) := heap_setCell_at (i := 2) HO7.out
        have hrow8 := ownsRow_setCell_other HOWN.out (a := ⟨w.heap.size + 2, 2, none⟩) (fun e => own_ne HOWN.out HO7.out (by decide) e.symm) (.slice g8 (k + 1) cap8)
        have hx8 : (w7.setCell ⟨w.heap.size + 2, 2, none⟩ (.slice g8 (k + 1) cap8)).heap[w.heap.size]? = _ := (Below.heap_setCell _ _ _ _ (by show w.heap.size ≠ _; simp)).trans HX7.out
        have hr8 : (w7.setCell ⟨w.heap.size + 2, 2, none⟩ (.slice g8 (k + 1) cap8)).heap[w.heap.size + 1]? = _ := (Below.heap_setCell _ _ _ _ (by show w.heap.size + 1 ≠ _; simp)).trans HR7.out
        have hu8 : Up w (w7.setCell ⟨w.heap.size + 2, 2, none⟩ (.slice g8 (k + 1) cap8)) := Below.setCell HU7.out (p := ⟨w.heap.size + 2, 2, none⟩) (by simp) _
        generalize w7.setCell ⟨w.heap.size + 2, 2, none⟩ (.slice g8 (k + 1) cap8) = W8 at *
        have hlist : va ((l.take k).map fewA) ++ [.string (mk (p.1.take 410)), .string (mk (p.2.take 410))] = va ((l.take (k + 1)).map fewA) := by
          rw [List.take_succ_eq_append_getElem hlt, List.map_append, va_app]
          have : l[k] = p := by rw [HP.out]; simp [List.getD, hlt]
          rw [this]; rfl
        rw [hlist] at hrow8
        have HO8 := Lib.hid ho8
        have HROW8 := Lib.hid hrow8
        have HX8 := Lib.hid hx8
        have HR8 := Lib.hid hr8
        have HU8 := Lib.hid hu8
        clear ho8 hrow8 hx8 hr8 hu8 hlist happ y7 f7 y2 d0 d1 e1 e2
        go_wp2_with fail
        go_roundw
        case rel => exact ⟨k + 1, _, by omega, by omega, by go_num, HO8.out, HROW8.out, HX8.out, HR8.out, HU8.out⟩
        case measure => simp [intOf]; omega
      · have hk22 : k = 22 := by omega
        subst hk22
        have hat : (l.take 22).map fewA = (l.take 22).map fewA := by rfl
        have o0 := cell_of_block HO.out 0
        have o1 := cell_of_block HO.out 1
        have o2 := cell_of_block HO.out 2
        have o3 := cell_of_block HO.out 3
        have r0 := cell_of_block HR.out 0
        have r1 := cell_of_block HR.out 1
        have r2 := cell_of_block HR.out 2
        have r3 := cell_of_block HR.out 3
        have f0 := frozen_of_block HR.out 0
        have f1 := frozen_of_block HR.out 1
        have f2 := frozen_of_block HR.out 2
        have f3 := frozen_of_block HR.out 3
        have hres := set4_at HR.out (.int .i64 kind) (.string (mk (name.take 410))) (.slice a3 22 cap3) (.string (mk (text.take 410)))
        have hu5 := set4_up (.int .i64 kind) (.string (mk (name.take 410))) (.slice a3 22 cap3) (.string (mk (text.take 410))) HU.out (b := w.heap.size + 1) (by simp)
        have hat5 : AttrsAt (set4 wr (w.heap.size + 1) (.int .i64 kind) (.string (mk (name.take 410))) (.slice a3 22 cap3) (.string (mk (text.take 410)))) (.slice a3 22 cap3) ((l.take 22).map fewA) :=
          ⟨w.heap.size, by
            have := row_keeps (w' := set4 wr (w.heap.size + 1) (.int .i64 kind) (.string (mk (name.take 410))) (.slice a3 22 cap3) (.string (mk (text.take 410)))) HROW.out (fun g c hg => by
              rw [set4_else _ _ _ _ (fun e => by subst e; rw [HR.out] at hg; injection hg with e; injection e with _ e _; exact absurd e (by decide))]; exact hg)
            rw [hat]
            rw [show ((l.take 22).map fewA).length = 22 from by simp <;> omega]
            exact this⟩
        obtain ⟨W5, hW5⟩ : ∃ W5, W5 = set4 wr (w.heap.size + 1) (.int .i64 kind) (.string (mk (name.take 410))) (.slice a3 22 cap3) (.string (mk (text.take 410))) := ⟨_, rfl⟩
        rw [← hW5] at hres hu5 hat5
        have HU5 := Lib.hid hu5
        have HAT5 := Lib.hid hat5
        have HW5 := Lib.hid hW5
        have HRES := Lib.hid hres
        clear hu5 hat5 hW5 hres
        go_wp2_with fail
        rw [show (((wr.setCell ⟨w.heap.size + 1, 0, none⟩ (.int .i64 kind)).setCell ⟨w.heap.size + 1, 1, none⟩ (.string (mk (name.take 410)))).setCell ⟨w.heap.size + 1, 2, none⟩ (.slice a3 22 cap3)).setCell ⟨w.heap.size + 1, 3, none⟩ (.string (mk (text.take 410))) = W5 from HW5.out.symm]
        have k0 := cell_of_block HRES.out 0
        have k1 := cell_of_block HRES.out 1
        have k2 := cell_of_block HRES.out 2
        have k3 := cell_of_block HRES.out 3
        exact bodyPost_ret (v := .agg #[.int .i64 kind, .string (mk (name.take 410)), .slice a3 22 cap3, .string (mk (text.take 410))]) (by simp [results, Tryz.results9, go_sem, k0, k1, k2, k3]) rfl ⟨⟨_, rfl, HAT5.out⟩, HU5.out⟩
    · have hkl : k = l.length := by omega
      subst hkl
      have hat : (l.take 22).map fewA = (l.take l.length).map fewA := by rw [List.take_of_length_le (by omega), List.take_length]
      have o0 := cell_of_block HO.out 0
      have o1 := cell_of_block HO.out 1
      have o2 := cell_of_block HO.out 2
      have o3 := cell_of_block HO.out 3
      have r0 := cell_of_block HR.out 0
      have r1 := cell_of_block HR.out 1
      have r2 := cell_of_block HR.out 2
      have r3 := cell_of_block HR.out 3
      have f0 := frozen_of_block HR.out 0
      have f1 := frozen_of_block HR.out 1
      have f2 := frozen_of_block HR.out 2
      have f3 := frozen_of_block HR.out 3
      have hres := set4_at HR.out (.int .i64 kind) (.string (mk (name.take 410))) (.slice a3 l.length cap3) (.string (mk (text.take 410)))
      have hu5 := set4_up (.int .i64 kind) (.string (mk (name.take 410))) (.slice a3 l.length cap3) (.string (mk (text.take 410))) HU.out (b := w.heap.size + 1) (by simp)
      have hat5 : AttrsAt (set4 wr (w.heap.size + 1) (.int .i64 kind) (.string (mk (name.take 410))) (.slice a3 l.length cap3) (.string (mk (text.take 410)))) (.slice a3 l.length cap3) ((l.take 22).map fewA) :=
        ⟨w.heap.size, by
          have := row_keeps (w' := set4 wr (w.heap.size + 1) (.int .i64 kind) (.string (mk (name.take 410))) (.slice a3 l.length cap3) (.string (mk (text.take 410)))) HROW.out (fun g c hg => by
            rw [set4_else _ _ _ _ (fun e => by subst e; rw [HR.out] at hg; injection hg with e; injection e with _ e _; exact absurd e (by decide))]; exact hg)
          rw [hat]
          rw [show ((l.take l.length).map fewA).length = l.length from by simp <;> omega]
          exact this⟩
      obtain ⟨W5, hW5⟩ : ∃ W5, W5 = set4 wr (w.heap.size + 1) (.int .i64 kind) (.string (mk (name.take 410))) (.slice a3 l.length cap3) (.string (mk (text.take 410))) := ⟨_, rfl⟩
      rw [← hW5] at hres hu5 hat5
      have HU5 := Lib.hid hu5
      have HAT5 := Lib.hid hat5
      have HW5 := Lib.hid hW5
      have HRES := Lib.hid hres
      clear hu5 hat5 hW5 hres
      go_wp2_with fail
      rw [show (((wr.setCell ⟨w.heap.size + 1, 0, none⟩ (.int .i64 kind)).setCell ⟨w.heap.size + 1, 1, none⟩ (.string (mk (name.take 410)))).setCell ⟨w.heap.size + 1, 2, none⟩ (.slice a3 l.length cap3)).setCell ⟨w.heap.size + 1, 3, none⟩ (.string (mk (text.take 410))) = W5 from HW5.out.symm]
      have k0 := cell_of_block HRES.out 0
      have k1 := cell_of_block HRES.out 1
      have k2 := cell_of_block HRES.out 2
      have k3 := cell_of_block HRES.out 3
      exact bodyPost_ret (v := .agg #[.int .i64 kind, .string (mk (name.take 410)), .slice a3 l.length cap3, .string (mk (text.take 410))]) (by simp [results, Tryz.results9, go_sem, k0, k1, k2, k3]) rfl ⟨⟨_, rfl, HAT5.out⟩, HU5.out⟩
end Go.Proofs.YtckfgkmfeklcmaaGreatDoor

/- Tokens: the law Back. -/
namespace Go.Proofs.YtckfgkmfeklcmaaGreatDoor
open Go.RowKit Go.Shelf
attribute [local go_sem] Oper.semAt_some

theorem write_len {x : Pl.Tok} (h : SmallT x) : (Pl.write x).length ≤ 100000000 := by
  have h1 := h.name
  have h2 := h.text
  have h3 := h.num
  have h4 := writeA_len x.attrs h.attrs
  have h5 := escaped_len x.text
  unfold Pl.write
  split
  · omega
  · split
    · simp; omega
    · split
      · simp; omega
      · split
        · simp; omega
        · simp
theorem putT_is {x : Pl.Tok} {a : List UInt8} (h : Pl.putT x = some a) : a = Pl.write x ∧ Pl.tokP a = .ok x [] := by
  unfold Pl.putT at h
  split at h
  · rename_i ht; injection h with h; subst h; exact ⟨rfl, ht⟩
  · cases h
theorem putT_ne {x : Pl.Tok} {a : List UInt8} (h : Pl.putT x = some a) : a ≠ [] := fun e => by
  have := (putT_is h).2
  rw [e] at this
  cases this
theorem few_attrs (x : Pl.Tok) : (few x).attrs.length ≤ 22 := by simp [few]; omega

set_option maxRecDepth 100000 in
set_option maxHeartbeats 6400000 in
theorem tokenBack_any (u : Value) (x : Pl.Tok) (s : List UInt8) (w : World) (hE : Env w) (h : TokIn w u x) :
    Calls Tryz.prog 4 #[u, .string (mk s)] w fun e w' => e = .returned (.bool true) ∧ Up w w' := by
  have HF := Lib.hid (fun w' (hu : Up w w') => few_any u x w' (h.up hu))
  have HE := Lib.hid hE
  obtain ⟨v, rfl, ha⟩ := h
  unfold tokV at HF ⊢
  have hA := ha
  obtain ⟨s1, cap1, hv, _⟩ := hA
  subst hv
  clear ha hE
  go_enter Tryz.func4, Tryz.ntmps4
  go_wp2_with fail
  obtain ⟨W0, hW0⟩ : ∃ W0, W0 = w.alloc (.cells #[.int .i64 x.kind, .string (mk x.name), .slice s1 x.attrs.length cap1, .string (mk x.text)] 24) := ⟨_, rfl⟩
  rw [← hW0]
  have hu0 : Up w W0 := by rw [hW0]; exact (Up.self w).alloc _
  have hb0 : W0.heap[w.heap.size]? = some (.cells #[.int .i64 x.kind, .string (mk x.name), .slice s1 x.attrs.length cap1, .string (mk x.text)] 24 (0, 0)) := by rw [hW0]; exact heap_new rfl
  refine (shown_any W0 (HE.out.up hu0)).mono ?_
  rintro e w1 ⟨rfl, hu1⟩
  have hb1 := (hu1.block _ (lt_of_block hb0)).trans hb0
  have HU1 := Lib.hid (Up.trans hu0 hu1)
  have HB1 := Lib.hid hb1
  have x0 := cell_of_block hb1 0
  have x1 := cell_of_block hb1 1
  have x2 := cell_of_block hb1 2
  have x3 := cell_of_block hb1 3
  clear hW0 hu0 hb0 hu1 hb1
  go_wp2_with fail
  refine (HF.out w1 HU1.out).mono ?_
  rintro e w2 ⟨⟨v2, rfl, ha2⟩, hu2⟩
  have hb2 := (hu2.block _ (lt_of_block HB1.out)).trans HB1.out
  obtain ⟨sv, capv, rfl, _⟩ := id ha2.reads
  obtain ⟨y, hy⟩ : ∃ y, y = few x := ⟨_, rfl⟩
  rw [← hy] at ha2
  have hsm : SmallT y := by rw [hy]; exact few_small x
  have hyl : y.attrs.length ≤ 22 := by rw [hy]; exact few_attrs x
  rw [← hy]
  have hbl : w.heap.size ≤ w.heap.size := Nat.le_refl _
  have hb3 := set4_at hb2 (.int .i64 y.kind) (.string (mk y.name)) (.slice sv y.attrs.length capv) (.string (mk y.text))
  have hu3 := set4_up (.int .i64 y.kind) (.string (mk y.name)) (.slice sv y.attrs.length capv) (.string (mk y.text)) (Up.trans HU1.out hu2) hbl
  have ha3 : AttrsAt (set4 w2 w.heap.size (.int .i64 y.kind) (.string (mk y.name)) (.slice sv y.attrs.length capv) (.string (mk y.text))) (.slice sv y.attrs.length capv) y.attrs := by
    obtain ⟨base, hrow⟩ := ha2
    exact ⟨base, row_keeps hrow (fun g c hg => by
      rw [set4_else _ _ _ _ (fun e => by subst e; rw [hb2] at hg; injection hg with e; injection e with _ e _; exact absurd e (by decide))]; exact hg)⟩
  have y0 := cell_of_block hb2 0
  have y1 := cell_of_block hb2 1
  have y2 := cell_of_block hb2 2
  have y3 := cell_of_block hb2 3
  have f0 := frozen_of_block hb2 0
  have f1 := frozen_of_block hb2 1
  have f2 := frozen_of_block hb2 2
  have f3 := frozen_of_block hb2 3
  obtain ⟨W3, hW3⟩ : ∃ W3, W3 = set4 w2 w.heap.size (.int .i64 y.kind) (.string (mk y.name)) (.slice sv y.attrs.length capv) (.string (mk y.text)) := ⟨_, rfl⟩
  rw [← hW3] at hb3 hu3 ha3
  have HB3 := Lib.hid hb3
  have HU3 := Lib.hid hu3
  have HA3 := Lib.hid ha3
  have HW3 := Lib.hid hW3
  have z0 := cell_of_block hb3 0
  have z1 := cell_of_block hb3 1
  have z2 := cell_of_block hb3 2
  have z3 := cell_of_block hb3 3
  rw [hW3] at z0 z1 z2 z3
  unfold set4 at z0 z1 z2 z3
  clear hb2 hb3 hu3 ha3 hW3 hu2 ha2 x0 x1 x2 x3 hy HF HB1 HU1
  go_wp2_with fail
  rw [show (((w2.setCell ⟨w.heap.size, 0, none⟩ (.int .i64 y.kind)).setCell ⟨w.heap.size, 1, none⟩ (.string (mk y.name))).setCell ⟨w.heap.size, 2, none⟩ (.slice sv y.attrs.length capv)).setCell ⟨w.heap.size, 3, none⟩ (.string (mk y.text)) = W3 from HW3.out.symm]
  refine (putT_any _ y W3 (HE.out.up HU3.out) ⟨_, rfl, HA3.out.reads⟩ hsm).mono ?_
  rintro e w4 ⟨rfl, hu4⟩
  have hb4 := (hu4.block _ (lt_of_block HB3.out)).trans HB3.out
  have HU4 := Lib.hid (Up.trans HU3.out hu4)
  have HA4 := Lib.hid (HA3.out.up hu4)
  have HB4 := Lib.hid hb4
  have hwl := write_len hsm
  clear z0 z1 z2 z3 y0 y1 y2 y3 f0 f1 f2 f3 HA3 HB3 HW3 HU3 hu4 hb4
  unfold putTV
  cases hp : Pl.putT y with
  | none =>
    have hbe : ((mk []).toList == []) = true := by rw [mk_toList]; rfl
    clear hp hwl
    go_wp2_with fail
    go_ret
    exact ⟨rfl, HU4.out⟩
  | some a =>
    obtain ⟨ha1, ha2⟩ := putT_is hp
    have hne := putT_ne hp
    have hal : a.length ≤ 100000000 := by rw [ha1]; exact hwl
    have ha0 : 0 < a.length := List.length_pos_iff.2 hne
    have hbk := Pl.back hp (s.take 500)
    obtain ⟨t, ht⟩ : ∃ t, t = s.take 500 := ⟨_, rfl⟩
    have htl : t.length ≤ 500 := by rw [ht]; simp; omega
    rw [← ht] at hbk
    have HBK := Lib.hid hbk
    have HT := Lib.hid ht
    have n1 : ¬ 9223372036854775807 < (mk a).size + 1 := by rw [mk_size]; omega
    have k1 : mk a ++ ({ data := #[60] } : ByteArray) = mk (a ++ [60]) := by rw [show ({ data := #[60] } : ByteArray) = mk [60] from rfl, mk_app]
    have n2 : ¬ 9223372036854775807 < (mk (a ++ [60])).size + (mk t).size := by rw [mk_size, mk_size]; simp; omega
    have k2 : mk (a ++ [60]) ++ mk t = mk (a ++ 60 :: t) := by rw [mk_app]; simp
    clear hp hwl ha1 ha2 hne hbk ht
    go_wp2_with fail
    refine (lcut_any s w4).mono ?_
    rintro e w5 ⟨rfl, hu5⟩
    rw [← HT.out]
    have HU5 := Lib.hid (Up.trans HU4.out hu5)
    have HA5 := Lib.hid (HA4.out.up hu5)
    have HB5 := Lib.hid ((hu5.block _ (lt_of_block HB4.out)).trans HB4.out)
    clear hu5 HA4 HB4 HU4
    go_wp2_with fail
    refine (next_any' (a ++ 60 :: t) w5 (HE.out.up HU5.out) (by simp; omega)).mono ?_
    rintro e w6 ⟨hp, hu6⟩
    obtain ⟨v6, rfl, ha6⟩ := hp.ok HBK.out
    have hn6 : (((a ++ 60 :: t).length : Int) - (60 :: t).length) = (a.length : Int) := by simp <;> omega
    rw [hn6]
    obtain ⟨base6, row6⟩ := id ha6
    obtain ⟨s6, cap6, rfl⟩ := row_slice row6
    have hb6 := (hu6.block _ (lt_of_block HB5.out)).trans HB5.out
    have HU6 := Lib.hid (Up.trans HU5.out hu6)
    have HA6 := Lib.hid (HA5.out.up hu6)
    have HA6' := Lib.hid ha6
    have HB6 := Lib.hid hb6
    have hl6 : w.heap.size < w6.heap.size := lt_of_block hb6
    have x0 := cell_of_block hb6 0
    have x1 := cell_of_block hb6 1
    have x2 := cell_of_block hb6 2
    have x3 := cell_of_block hb6 3
    have hsa := mk_size a
    unfold tokV
    clear hp hu6 ha6 hn6 row6 hb6 HA5 HB5 HU5
    go_wp2_with fail
    refine (same_any _ _ y y _ ⟨_, rfl, (HA6.out.reads).up ((Up.self _).alloc _)⟩ ⟨_, rfl, (HA6'.out.reads).up ((Up.self _).alloc _)⟩ (by omega) (by omega)).mono ?_
    rintro e w7 ⟨rfl, hu7⟩
    have HU7 := Lib.hid (Up.trans (HU6.out.alloc _) hu7)
    rw [decide_eq_true rfl]
    clear hu7 x0 x1 x2 x3
    go_wp2_with fail
    go_ret
    exact ⟨rfl, HU7.out⟩
end Go.Proofs.YtckfgkmfeklcmaaGreatDoor
