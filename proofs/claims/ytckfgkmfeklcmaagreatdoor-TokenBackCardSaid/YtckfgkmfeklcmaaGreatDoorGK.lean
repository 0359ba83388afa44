/- The texts TokE, TokF, TokG, TokH, TokI of this claim in one: the walks and plain laws that the statement's proof rests on. -/
import Derived.Test.YtckfgkmfeklcmaaGreatDoorGJ
import Derived.MapKept
import Derived.Test.YtckfgkmfeklcmaaGreatDoorGA
set_option linter.unusedVariables false
set_option linter.unusedSimpArgs false
/- Tokens: an attribute. -/
namespace Go.Proofs.YtckfgkmfeklcmaaGreatDoor
open Go.RowKit Go.Shelf
attribute [local go_sem] Oper.semAt_some

theorem Tryz.infoAttr : (Tryz.prog.info? 43).map (fun i => (i.zero, i.size, i.bytes)) = some (some (.agg #[.string ⟨#[]⟩, .string ⟨#[]⟩]), 2, 32) := by kernel_rfl
def eqS (k : ByteArray) : Value → Bool := fun v => match v with | .string m => k == m | _ => false
theorem sameNow_str (n m : ByteArray) : Instr.sameNow .string (.string n) (.string m) = some (eqS n (.string m)) := rfl
theorem mk_beq (a b : List UInt8) : (mk a == mk b) = (a == b) := by
  rw [Bool.eq_iff_iff, Go.MapKept.bytes_beq, beq_iff_eq]
  exact ⟨mk_inj, fun e => by rw [e]⟩
theorem met_find (met : List (List UInt8)) (nm : List UInt8) : (((metKv met).find? fun p => eqS (mk nm) p.1).map (·.2)).getD (.int .i64 0) = .int .i64 (if met.any (fun a => a == nm) then 1 else 0) := by
  induction met with
  | nil => rfl
  | cons a t ih =>
    have e : metKv (a :: t) = (.string (mk a), .int .i64 1) :: metKv t := rfl
    rw [e, List.find?_cons]
    have h : eqS (mk nm) (.string (mk a)) = (a == nm) := by
      show (mk nm == mk a) = _
      rw [mk_beq]
      by_cases h : a = nm
      · subst h; simp
      · rw [beq_eq_false_iff_ne.2 h, beq_eq_false_iff_ne.2 (fun e => h e.symm)]
    by_cases hb : (a == nm) = true
    · simp [h, hb]
    · rw [Bool.not_eq_true] at hb
      simp only [h, hb, List.any_cons, Bool.false_or]
      exact ih
theorem met_any (l : List (List UInt8 × List UInt8)) (nm : List UInt8) : (l.map Prod.fst).any (fun a => a == nm) = l.any (fun a => a.1 == nm) := by
  induction l with
  | nil => rfl
  | cons a t ih => simp [ih]
theorem met_snoc (met : List (List UInt8)) (nm : List UInt8) : metKv (met ++ [nm]) = metKv met ++ [(.string (mk nm), .int .i64 1)] := by simp [metKv]
theorem met_new {met : List (List UInt8)} {nm : List UInt8} (h : met.any (fun a => a == nm) = false) : (∀ p ∈ metKv met, Instr.sameNow .string (.string (mk nm)) p.1 = some (eqS (mk nm) p.1)) ∧ (∀ p ∈ metKv met, eqS (mk nm) p.1 = false) := by
  refine ⟨fun p hp => ?_, fun p hp => ?_⟩
  · obtain ⟨a, ha, rfl⟩ := List.mem_map.1 hp
    exact sameNow_str _ _
  · obtain ⟨a, ha, rfl⟩ := List.mem_map.1 hp
    have h1 := (List.any_eq_false.1 h) a ha
    show (mk nm == mk a) = false
    rw [mk_beq]
    rw [beq_eq_false_iff_ne]
    exact fun e => h1 (by simp [e])
theorem row_slice {M e size n : Nat} {v : Value} {xs : List Value} {w : World} (h : w.ownsRow M e size v n xs) : ∃ a cap, v = .slice a n cap := by
  rcases h.2 with ⟨rfl, h0⟩ | ⟨g, cap, cur, rfl, _⟩
  · exact ⟨none, 0, by rw [h0]⟩
  · exact ⟨_, _, rfl⟩

section
variable (M b : Nat) (rest text name : List UInt8) (kind : Int) (l : List (List UInt8 × List UInt8)) (w : World)
def attrPost (e : Ending) (w' : World) : Prop :=
  (∃ l' t, Pl.attrP rest l = .ok l' t ∧ e = .returned .nilIface ∧ RdT M w' b t kind name (l', l'.map Prod.fst) text) ∨ (∃ (e' : Int) (n : Nat), Pl.attrP rest l = .bad e' n ∧ e = .returned (wrongT e' n))
theorem met_world {M b : Nat} {rest text name : List UInt8} {kind : Int} {attrs : AM} {w W : World} {nm : List UInt8} (h : RdT M w b rest kind name attrs text) (hn : attrs.2.any (fun a => a == nm) = false) : ∃ mb W, w.cell? ⟨b, 5, none⟩ = some (.map (some mb)) ∧ (Instr.lookup 58 (.map (some mb)) (.string (mk nm)) false).run Tryz.prog w = .ok (.int .i64 0) w ∧ (Instr.mapUpdate 58 (.map (some mb)) (.string (mk nm)) (.int .i64 1)).run Tryz.prog w = .ok () W ∧ RdT M W b rest kind name (attrs.1, attrs.2 ++ [nm]) text ∧ Fr M w W := by
  obtain ⟨v, mb, h1, h2, h3, h4⟩ := h.lay
  obtain ⟨m1, m2⟩ := met_new hn
  have lk := run_lookup_ok (P := Tryz.prog) h4 (.string (mk nm)) (.int .i64 0) (eqS (mk nm)) Tryz.underlying58 Tryz.underlying9 rfl (Tryz.zeroInt w) m1 false
  rw [met_find, hn] at lk
  obtain ⟨W, r1, r2, r3, r4⟩ := run_update_new (P := Tryz.prog) h4 (.string (mk nm)) (.int .i64 1) (eqS (mk nm)) Tryz.underlying58 Tryz.underlying9 rfl m1 m2
  have hbm : b ≠ mb := fun e => by
    obtain ⟨es, cl, hh, _⟩ := h4
    rw [← e, h1] at hh; cases hh
  refine ⟨mb, W, cell_of_block h1 5, lk, r1, ⟨h.low, v, mb, r3.same b _ h1 hbm, row_keeps h2 (fun g c hg => r3.same g _ hg (fun e => ?_)), h3, by rw [met_snoc]; exact r2⟩, ⟨⟨r3.os, r3.tape, r3.output, r3.size, fun k hk => ?_⟩, fun k c T _ hk => r3.same k _ hk (fun e => ?_)⟩⟩
  · obtain ⟨es, cl, hh, _⟩ := h4
    have e' : g = mb := e
    rw [← e', hg] at hh; cases hh
  · have hlt : k < w.heap.size := by have := h4.lt; omega
    rw [Array.getElem?_eq_getElem hlt]
    exact r3.same k _ (Array.getElem?_eq_getElem hlt) (by show ¬ k = mb; omega)
  · obtain ⟨es, cl, hh, _⟩ := h4
    have e' : k = mb := e
    rw [← e', hk] at hh; cases hh
theorem met_seen {M b : Nat} {rest text name : List UInt8} {kind : Int} {attrs : AM} {w : World} {nm : List UInt8} (h : RdT M w b rest kind name attrs text) (hn : attrs.2.any (fun a => a == nm) = true) : ∃ mb, w.cell? ⟨b, 5, none⟩ = some (.map (some mb)) ∧ (Instr.lookup 58 (.map (some mb)) (.string (mk nm)) false).run Tryz.prog w = .ok (.int .i64 1) w := by
  obtain ⟨v, mb, h1, h2, h3, h4⟩ := h.lay
  have lk := run_lookup_ok (P := Tryz.prog) h4 (.string (mk nm)) (.int .i64 0) (eqS (mk nm)) Tryz.underlying58 Tryz.underlying9 rfl (Tryz.zeroInt w) (fun p hp => by
    obtain ⟨a, ha, rfl⟩ := List.mem_map.1 hp
    exact sameNow_str _ _) false
  rw [met_find, hn] at lk
  exact ⟨mb, cell_of_block h1 5, lk⟩
theorem RdT.cell3 {M b : Nat} {rest text name : List UInt8} {kind : Int} {attrs : AM} {w : World} (h : RdT M w b rest kind name attrs text) : ∃ a cap, w.cell? ⟨b, 3, none⟩ = some (.slice a attrs.1.length cap) := by
  obtain ⟨v, mb, h1, h2, h3, h4⟩ := h.lay
  obtain ⟨a, cap, rfl⟩ := row_slice h2
  exact ⟨a, cap, cell_of_block h1 3⟩

theorem RdT.append {M b : Nat} {rest text name nm v : List UInt8} {kind : Int} {l : List (List UInt8 × List UInt8)} {met : List (List UInt8)} {w w7 : World} {vv v2 : Value} {mb : Nat} {o : Obj} (hMb : M ≤ b) (hMw : M ≤ w.heap.size)
    (g1 : w.heap[b]? = some (.cells #[.string (mk rest), .int .i64 kind, .string (mk name), vv, .string (mk text), .map (some mb)] 60 (0, 0))) (g2 : w.ownsRow M 43 2 vv l.length (va l)) (g3 : M ≤ mb) (g4 : MapAt w mb (metKv met))
    (hown : w7.ownsRow M 43 2 v2 (l.length + 1) (va l ++ [.string (mk nm), .string (mk v)])) (hg : (w.alloc o).grownBy w7 vv.ownBlock) :
    w7.heap[b]? = some (.cells #[.string (mk rest), .int .i64 kind, .string (mk name), vv, .string (mk text), .map (some mb)] 60 (0, 0)) ∧ RdT M (w7.setCell ⟨b, 3, none⟩ v2) b rest kind name (l ++ [(nm, v)], met) text ∧ Fr M w (w7.setCell ⟨b, 3, none⟩ v2) := by
  have hbl := lt_of_block g1
  have hml := g4.lt
  have hne : ∀ k, (∀ c, w.heap[k]? ≠ some (.cells c 43 (0, 0))) → some k ≠ vv.ownBlock := fun k hk e => by
    rcases g2.2 with ⟨hv, _⟩ | ⟨g, cap, cur, hv, _, hgg, _⟩
    · rw [hv] at e; simp [Value.ownBlock] at e
    · rw [hv] at e
      simp [Value.ownBlock] at e
      subst e
      exact hk _ hgg
  have hb7 : w7.heap[b]? = some (.cells #[.string (mk rest), .int .i64 kind, .string (mk name), vv, .string (mk text), .map (some mb)] 60 (0, 0)) := by
    rw [hg.block b (by simp; omega) (hne b (fun c e => by rw [g1] at e; injection e with e; injection e with _ e _; exact absurd e (by decide))), Below.heap_alloc _ _ _ hbl]; exact g1
  have hm7 : w7.heap[mb]? = w.heap[mb]? := by
    rw [hg.block mb (by simp; omega) (hne mb (fun c e => by obtain ⟨es, cl, hh, _⟩ := g4; rw [hh] at e; cases e)), Below.heap_alloc _ _ _ hml]
  have hv2 : v2.ownBlock ≠ some b := fun e => by
    rcases hown.2 with ⟨hv, _⟩ | ⟨g, cap, cur, hv, _, hgg, _⟩
    · rw [hv] at e; simp [Value.ownBlock] at e
    · rw [hv] at e
      simp [Value.ownBlock] at e
      subst e
      rw [hb7] at hgg; injection hgg with e; injection e with _ e _; exact absurd e (by decide)
  refine ⟨hb7, ⟨hMb, v2, mb, heap_setCell_at (i := 3) hb7, ?_, g3, map_keeps hb7 (g4.same hm7)⟩, ?_⟩
  · rw [List.length_append, va_app]
    exact ownsRow_setCell_other hown hv2 _
  · refine ⟨(((Below.refl M w).alloc hMw o).grown hg (by simp; omega) (fun k hk => (g2.lt k hk).1)).setCell (p := ⟨b, 3, none⟩) hMb _, fun k c T hT hk => set_keeps hb7 (by rcases hT with rfl | rfl <;> decide) k c ?_⟩
    have hlt := (Array.getElem?_eq_some_iff.1 hk).1
    rw [hg.block k (by simp; omega) (hne k (fun c' e => by rw [hk] at e; injection e with e; injection e with _ e _; exact absurd e (by rcases hT with rfl | rfl <;> decide))), Below.heap_alloc _ _ _ hlt]
    exact hk

set_option maxRecDepth 100000 in
set_option maxHeartbeats 6400000 in
theorem attr_any (hE : EnvB M w) (hl : rest.length ≤ 1000000000) (hll : l.length ≤ 20) (h : RdT M w b rest kind name (l, l.map Prod.fst) text) :
    Calls Tryz.prog 64 #[.pointer (some ⟨b, 0, none⟩)] w fun ev w' => attrPost M b rest text name kind l ev w' ∧ Fr M w w' := by
  obtain ⟨i0, hi, hz0, hz1, hz2⟩ := info_parts Tryz.infoAttr
  have HE := Lib.hid hE
  have HN := Lib.hid (name_any M b rest text name kind (l, l.map Prod.fst) w hl h)
  have c0 := h.cell0
  have hsz := mk_size rest
  clear h hE
  go_enter Tryz.func64, Tryz.ntmps64
  go_wp2_with fail
  refine HN.out.mono ?_
  rintro e w1 ⟨hnp, hb1⟩
  have HB1 := Lib.hid hb1
  clear c0 hb1 HN
  rcases hnp with ⟨nm, s1, hnp, rfl, hr1⟩ | ⟨hnp, rfl, hr1⟩
  · have HR1 := Lib.hid hr1
    have HNP := Lib.hid hnp
    obtain ⟨a3, cap3, c3⟩ := hr1.cell3
    have hs1 : s1.length ≤ rest.length := by have h1 := (Pl.nameP_ok hnp).1; rw [h1, List.length_append]; omega
    clear hnp hr1
    by_cases h20 : l.length = 20
    · have hb20 : ((l.length : Int) == 20) = true := by rw [h20]; rfl
      have hat : Pl.attrP rest l = .bad 50 rest.length := by unfold Pl.attrP; rw [HNP.out]; simp [h20]
      have HAT := Lib.hid hat
      clear hat h20
      go_wp2_with fail
      go_ret
      exact ⟨.inr ⟨50, rest.length, HAT.out, rfl⟩, HB1.out⟩
    · have hb20 : ((l.length : Int) == 20) = false := by
        have : ¬ (l.length : Int) = 20 := by omega
        simpa using this
      have h20' : (l.length == 20) = false := by simpa using h20
      cases hany : l.any (fun a => a.1 == nm)
      · obtain ⟨mb, W2, c5, lk, up, hr2, hb2⟩ := met_world (W := w1) (nm := nm) HR1.out (by rw [met_any]; exact hany)
        have hat : Pl.attrP rest l = match Pl.mustP 61 (Pl.blanks s1) with
            | .bad e n => .bad e n
            | .ok _ s3 => match Pl.valueP (Pl.blanks s3) with
              | .bad e n => .bad e n
              | .ok v s4 => .ok (l ++ [(nm, v)]) s4 := by
          unfold Pl.attrP
          rw [HNP.out]
          simp only [h20', hany, if_false, Bool.false_eq_true]
          rfl
        have HAT := Lib.hid hat
        have HR2 := Lib.hid hr2
        have HB2 := Lib.hid (HB1.out.trans hb2)
        clear hat h20 h20' hany hr2 hb2
        go_wp2_with fail
        have hM2 : b < W2.heap.size := HR2.out.lt
        refine (blanks_any M b s1 text name kind _ W2 HR2.out).mono ?_
        rintro e w3 ⟨rfl, hr3, hb3⟩
        have HR3 := Lib.hid hr3
        have HB3 := Lib.hid (HB2.out.trans hb3)
        clear hr3 hb3 c5 lk up c3
        go_wp2_with fail
        refine (must_any M b (Pl.blanks s1) text name kind _ w3 ⟨#[61]⟩ 61 rfl HR3.out).mono ?_
        rintro e w4 ⟨hm, hb4⟩
        have HB4 := Lib.hid (HB3.out.trans hb4)
        clear hb4
        rcases hm with ⟨s3, hm, rfl, hr4⟩ | ⟨hm, rfl⟩
        · have HR4 := Lib.hid hr4
          have hat2 := HAT.out
          rw [hm] at hat2
          have HAT2 := Lib.hid hat2
          have hbl1 := Pl.blanks_le s1
          have hs3 : s3.length < (Pl.blanks s1).length := by have h1 := Pl.mustP_ok hm; rw [h1]; simp
          clear hat2 hm hr4
          go_wp2_with fail
          refine (blanks_any M b s3 text name kind _ w4 HR4.out).mono ?_
          rintro e w5 ⟨rfl, hr5, hb5⟩
          have HR5 := Lib.hid hr5
          have hB5 := HB4.out.trans hb5
          have HB5 := Lib.hid hB5
          have hbl3 := Pl.blanks_le s3
          clear hr5 hb5 hB5
          go_wp2_with fail
          refine (value_any M b (Pl.blanks s3) text name kind _ w5 (HE.out.fr HB5.out) (by omega) HR5.out).mono ?_
          rintro e w6 ⟨⟨hv, lft, hr6⟩, hb6⟩
          have HB6 := Lib.hid (HB5.out.trans hb6)
          clear hb6
          obtain ⟨v, ve, hve, hr7, hres⟩ : ∃ (v : List UInt8) (ve : Value), e = .returned (.tuple #[.string (mk v), ve]) ∧ (∃ r7, RdT M w6 b r7 kind name (l, l.map Prod.fst ++ [nm]) text ∧ ((ve = .nilIface ∧ Pl.attrP rest l = .ok (l ++ [(nm, v)]) r7) ∨ (∃ (e' : Int) (n : Nat), ve = wrongT e' n ∧ Pl.attrP rest l = .bad e' n))) ∧ True := by
            rcases hv with ⟨v, t, q1, q2, q3⟩ | ⟨e', n, q1, q2⟩
            · exact ⟨v, .nilIface, q2, ⟨t, q3, .inl ⟨rfl, by rw [HAT2.out]; simp only [q1]⟩⟩, trivial⟩
            · exact ⟨[], wrongT e' n, q2, ⟨lft, hr6, .inr ⟨e', n, rfl, by rw [HAT2.out]; simp only [q1]⟩⟩, trivial⟩
          subst hve
          obtain ⟨r7, hr7, hcase⟩ := hr7
          have HC := Lib.hid hcase
          have HR7 := Lib.hid hr7
          obtain ⟨vv, mb7, g1, g2, g3, g4⟩ := hr7.lay
          obtain ⟨a7, cap7, rfl⟩ := row_slice g2
          have c37 := cell_of_block g1 3
          have G1 := Lib.hid g1
          have G2 := Lib.hid g2
          have G4 := Lib.hid g4
          have hw6 : M ≤ w6.heap.size := Nat.le_trans hr7.low (Nat.le_of_lt hr7.lt)
          clear hv hr6 hr7 g1 g2 g4 hcase hsz
          go_wp2_with (at_builtin; go_must (refine wpList_append_own _ rfl _ _ 22 rfl M 43 i0 (.agg #[.string ⟨#[]⟩, .string ⟨#[]⟩]) 2 32 Tryz.underlying22 hi hz0 hz1 hz2 rfl (by decide) _ _ _ rfl (G2.out.alloc _) ⟨w6.heap.size, 0, none⟩ 1 1 [.string (mk nm), .string (mk v)] rfl rfl ?news (by simp [Value.oneCell']) ?h63 ?hby ?hbase ?_))
          case news =>
            intro j u hj
            match j, hj with
            | 0, hj =>
              have e : u = .string (mk nm) := by simpa using hj.symm
              rw [e]; exact cell_of_block (heap_new (w := w6) (o := .cells #[.string (mk nm), .string (mk v)] 43) rfl) 0
            | 1, hj =>
              have e : u = .string (mk v) := by simpa using hj.symm
              rw [e]; exact cell_of_block (heap_new (w := w6) (o := .cells #[.string (mk nm), .string (mk v)] 43) rfl) 1
            | j + 2, hj => simp at hj
          case h63 => unfold maxLen; omega
          case hby => omega
          case hbase => simp; omega
          intro v2 w7 hown2 hg2 _
          obtain ⟨q1, q2, q3⟩ := RdT.append (nm := nm) (v := v) HR7.out.low hw6 G1.out G2.out g3 G4.out (by simpa using hown2) hg2
          obtain ⟨g8, cap8, rfl⟩ := row_slice hown2
          have d3 := cell_of_block q1 3
          have f3 := frozen_of_block q1 3
          have Q2 := Lib.hid q2
          have Q3 := Lib.hid q3
          clear q1 q2 q3 hown2 hg2 c37
          go_wp2_with fail
          go_ret
          refine ⟨?_, HB6.out.trans Q3.out⟩
          rcases HC.out with ⟨rfl, hok⟩ | ⟨e', n, rfl, hbad⟩
          · exact .inl ⟨_, _, hok, rfl, by rw [List.map_append]; exact Q2.out⟩
          · exact .inr ⟨_, _, hbad, rfl⟩
        · have hat2 := HAT.out
          rw [hm] at hat2
          have HAT2 := Lib.hid hat2
          unfold wrongT
          clear hat2 hm hsz
          go_wp2_with fail
          go_ret
          exact ⟨.inr ⟨50, _, HAT2.out, rfl⟩, HB4.out⟩
      · obtain ⟨mb, c5, lk⟩ := met_seen (nm := nm) HR1.out (by rw [met_any]; exact hany)
        have hat : Pl.attrP rest l = .bad 51 rest.length := by unfold Pl.attrP; rw [HNP.out]; simp only [h20', hany, if_true]; rfl
        have HAT := Lib.hid hat
        clear hat h20 h20' hany
        go_wp2_with fail
        go_ret
        exact ⟨.inr ⟨51, rest.length, HAT.out, rfl⟩, HB1.out⟩
  · have HR1 := Lib.hid hr1
    have hat : Pl.attrP rest l = .bad 50 rest.length := by unfold Pl.attrP; rw [hnp]
    have HAT := Lib.hid hat
    unfold wrongT
    clear hat hnp hr1
    go_wp2_with fail
    go_ret
    exact ⟨.inr ⟨50, rest.length, HAT.out, rfl⟩, HB1.out⟩
end
end Go.Proofs.YtckfgkmfeklcmaaGreatDoor

/- Tokens: attributes, a tag's end, a name set, a text. -/
namespace Pl
theorem attrsF_step (k : Nat) (s : Bytes) (l : List (Bytes × Bytes)) : attrsF (k + 1) s l = if (blanks s).length == s.length then .ok l s else match blanks s with
    | [] => .ok l (blanks s)
    | c :: _ => if c == 62 || c == 47 then .ok l (blanks s) else match attrP (blanks s) l with
      | .bad e n => .bad e n
      | .ok l' s2 => attrsF k s2 l' := rfl
end Pl
namespace Go.Proofs.YtckfgkmfeklcmaaGreatDoor
open Go.RowKit Go.Shelf
attribute [local go_sem] Oper.semAt_some

section
variable (M b : Nat) (rest text name : List UInt8) (kind : Int) (attrs : AM) (w : World)
def attrsPost (e : Ending) (w' : World) : Prop :=
  (∃ l' t, Pl.attrsP rest = .ok l' t ∧ e = .returned .nilIface ∧ RdT M w' b t kind name (l', l'.map Prod.fst) text) ∨ (∃ (e' : Int) (n : Nat), Pl.attrsP rest = .bad e' n ∧ e = .returned (wrongT e' n))
theorem RdT.left {M b : Nat} {rest text name : List UInt8} {kind : Int} {attrs : AM} {w : World} (h : RdT M w b rest kind name attrs text) : leftAt w b = rest.length := by
  unfold leftAt; rw [h.cell0]; exact mk_size rest

set_option maxRecDepth 100000 in
set_option maxHeartbeats 6400000 in
theorem attrs_any (hE : EnvB M w) (hl : rest.length ≤ 1000000000) (h : RdT M w b rest kind name ([], []) text) :
    Calls Tryz.prog 41 #[.pointer (some ⟨b, 0, none⟩)] w fun ev w' => attrsPost M b rest text name kind ev w' ∧ Fr M w w' := by
  have HE := Lib.hid hE
  have H := Lib.hid h
  clear h hE
  go_enter Tryz.func41, Tryz.ntmps41
  go_wp2
  go_loopw [3] (fun _ wr => ∃ (s : List UInt8) (l : List (List UInt8 × List UInt8)), RdT M wr b s kind name (l, l.map Prod.fst) text ∧ Pl.attrsP rest = Pl.attrsF (s.length + 1) s l ∧ l.length ≤ 20 ∧ s.length ≤ rest.length ∧ Fr M w wr) (fun _ wr => leftAt wr b)
  case atStart => exact ⟨rest, [], H.out, rfl, by simp, Nat.le_refl _, Fr.refl _ _⟩
  case round =>
    obtain ⟨s, l, hr, hat, hll, hsl, hb⟩ := hrel
    have HR := Lib.hid hr
    have HAT := Lib.hid hat
    have HB := Lib.hid hb
    clear hr hat hb
    go_wp2_with fail
    refine (blanks_any M b s text name kind _ wr HR.out).mono ?_
    rintro e w1 ⟨rfl, hr1, hb1⟩
    have HR1 := Lib.hid hr1
    have HB1 := Lib.hid (HB.out.trans hb1)
    have hble := Pl.blanks_le s
    have hat := HAT.out
    rw [Pl.attrsF_step] at hat
    clear hr1 hb1
    by_cases hsame : (Pl.blanks s).length = s.length
    · rw [if_pos (by simpa using hsame)] at hat
      have HAT2 := Lib.hid hat
      have hdl : decide ((Pl.blanks s).length < s.length) = false := by simp; omega
      rw [hdl]
      have hbs : Pl.blanks s = s := Pl.blanks_same hsame
      have HBS := Lib.hid hbs
      clear hat hdl hbs hsame
      go_wp2_with fail
      go_ret
      exact ⟨.inl ⟨l, s, HAT2.out, rfl, by have := HR1.out; rw [HBS.out] at this; exact this⟩, HB1.out⟩
    · rw [if_neg (by simpa using hsame)] at hat
      have hdl : decide ((Pl.blanks s).length < s.length) = true := by simp; omega
      rw [hdl]
      clear hdl
      obtain ⟨s1, hs1⟩ : ∃ s1, s1 = Pl.blanks s := ⟨_, rfl⟩
      rw [← hs1] at hat hble hsame
      have hr1 := HR1.out
      rw [← hs1] at hr1
      clear HR1 hs1
      have HR1 := Lib.hid hr1
      clear hr1
      have c0 := HR1.out.cell0
      have hsz := mk_size s1
      cases hc : s1 with
      | nil =>
        subst hc
        have HAT2 := Lib.hid hat
        have hbeq : ((mk []).toList == []) = true := by rw [mk_toList]; rfl
        clear hat
        go_wp2_with fail
        go_ret
        exact ⟨.inl ⟨l, [], HAT2.out, rfl, HR1.out⟩, HB1.out⟩
      | cons c u =>
        subst hc
        have hbeq : ((mk (c :: u)).toList == []) = false := by rw [mk_toList]; rfl
        have hix : ∀ h, (mk (c :: u))[0]'h = c := fun _ => rfl
        have hsz' : (mk (c :: u)).size = u.length + 1 := by rw [mk_size]; rfl
        clear hsz
        simp only at hat
        by_cases hcc : c = 62 ∨ c = 47
        · have hcb : (c == 62 || c == 47) = true := by simpa using hcc
          rw [if_pos hcb] at hat
          have HAT2 := Lib.hid hat
          clear hat hcb
          rcases hcc with rfl | rfl
          all_goals
            go_wp2_with fail
            go_ret
            exact ⟨.inl ⟨l, _, HAT2.out, rfl, HR1.out⟩, HB1.out⟩
        · have hcb : ¬ (c == 62 || c == 47) = true := by simpa using hcc
          rw [if_neg hcb] at hat
          have HAT2 := Lib.hid hat
          have n62 : ((c.toNat : Int) == 62) = false := by
            rw [beq_eq_false_iff_ne]; intro e
            exact hcc (.inl (UInt8.toNat_inj.1 (by show c.toNat = 62; omega)))
          have n47 : ((c.toNat : Int) == 47) = false := by
            rw [beq_eq_false_iff_ne]; intro e
            exact hcc (.inr (UInt8.toNat_inj.1 (by show c.toNat = 47; omega)))
          have hcl : (c :: u).length ≤ 1000000000 := by omega
          clear hat hcb hcc
          go_wp2_with fail
          refine (attr_any M b (c :: u) text name kind l w1 (HE.out.fr HB1.out) hcl hll HR1.out).mono ?_
          rintro e w2 ⟨hp, hb2⟩
          have HB2 := Lib.hid (HB1.out.trans hb2)
          clear hb2 c0 hbeq hix n62 n47
          rcases hp with ⟨l', t, hok, rfl, hr2⟩ | ⟨e', n, hbad, rfl⟩
          · have hat2 := HAT2.out
            rw [hok] at hat2
            have hlt := Pl.attrP_lt hok
            have hl' : l'.length ≤ 20 := by obtain ⟨_, _, _, _, _, h1, _, _, _, rfl⟩ := Pl.attrP_ok hok; simp; omega
            have HAT3 := Lib.hid hat2
            have HR2 := Lib.hid hr2
            clear hat2 hok hr2
            go_wp2_with fail
            go_roundw
            case rel =>
              refine ⟨t, l', HR2.out, ?_, hl', by omega, HB2.out⟩
              rw [HAT3.out]
              exact Pl.attrsF_fuel _ _ _ _ (by omega) (by omega)
            case measure => rw [HR2.out.left, HR.out.left]; omega
          · have hat2 := HAT2.out
            rw [hbad] at hat2
            have HAT3 := Lib.hid hat2
            unfold wrongT
            clear hat2 hbad
            go_wp2_with fail
            go_ret
            exact ⟨.inr ⟨e', n, HAT3.out, rfl⟩, HB2.out⟩
def closesPost (e : Ending) (w' : World) : Prop :=
  (∃ t, Pl.mustP 62 (Pl.blanks rest) = .ok () t ∧ e = .returned .nilIface ∧ RdT M w' b t kind name attrs text) ∨ (Pl.mustP 62 (Pl.blanks rest) = .bad 50 (Pl.blanks rest).length ∧ e = .returned (wrongT 50 (Pl.blanks rest).length))
set_option maxHeartbeats 800000 in
theorem closes_any (h : RdT M w b rest kind name attrs text) :
    Calls Tryz.prog 40 #[.pointer (some ⟨b, 0, none⟩)] w fun ev w' => closesPost M b rest text name kind attrs ev w' ∧ Fr M w w' := by
  have H := Lib.hid h
  clear h
  go_enter Tryz.func40, Tryz.ntmps40
  go_wp2_with fail
  refine (blanks_any M b rest text name kind attrs w H.out).mono ?_
  rintro e w1 ⟨rfl, hr1, hb1⟩
  have HR1 := Lib.hid hr1
  have HB1 := Lib.hid hb1
  clear hr1 hb1
  go_wp2_with fail
  refine (must_any M b (Pl.blanks rest) text name kind attrs w1 ⟨#[62]⟩ 62 rfl HR1.out).mono ?_
  rintro e w2 ⟨hp, hb2⟩
  have HB2 := Lib.hid (HB1.out.trans hb2)
  clear hb2
  rcases hp with ⟨t, hm, rfl, hr2⟩ | ⟨hm, rfl⟩
  · have HM := Lib.hid hm
    have HR2 := Lib.hid hr2
    clear hm hr2
    go_wp2_with fail
    go_ret
    exact ⟨.inl ⟨t, HM.out, rfl, HR2.out⟩, HB2.out⟩
  · have HM := Lib.hid hm
    clear hm
    go_wp2_with fail
    go_ret
    exact ⟨.inr ⟨HM.out, rfl⟩, HB2.out⟩

def endsPost (e : Ending) (w' : World) : Prop :=
  (∃ k t, Pl.endsP rest = .ok k t ∧ e = .returned .nilIface ∧ RdT M w' b t k name attrs text) ∨ (∃ (e' : Int) (n : Nat), Pl.endsP rest = .bad e' n ∧ e = .returned (wrongT e' n))
set_option maxHeartbeats 1600000 in
theorem ends_any (h : RdT M w b rest 1 name attrs text) :
    Calls Tryz.prog 42 #[.pointer (some ⟨b, 0, none⟩)] w fun ev w' => endsPost M b rest text name attrs ev w' ∧ Fr M w w' := by
  have H := Lib.hid h
  have hlow := h.low
  clear h
  obtain ⟨hp, t, k, g1, g2, g3, g4⟩ : ∃ (hp : Bool) (t : List UInt8) (k : Int), Lib.hasPrefix rest [47] = hp ∧ Lib.trimPrefix rest [47] = t ∧ ((hp = true ∧ k = 3) ∨ (hp = false ∧ k = 1)) ∧ Pl.endsP rest = (match Pl.mustP 62 t with | .bad e n => .bad e n | .ok _ r => .ok k r) := by
    rcases one_prefix 47 rest with ⟨t, h0, h1, h2, _⟩ | ⟨h0, h1, h2, _⟩
    · exact ⟨true, t, 3, h1, h2, .inl ⟨rfl, rfl⟩, by rw [h0]; rfl⟩
    · refine ⟨false, rest, 1, h1, h2, .inr ⟨rfl, rfl⟩, ?_⟩
      unfold Pl.endsP
      split
      · exact absurd rfl (h0 _)
      · rfl
  have G1 := Lib.hid g1
  have G2 := Lib.hid g2
  have G4 := Lib.hid g4
  clear g1 g2 g4
  rcases g3 with ⟨rfl, rfl⟩ | ⟨rfl, rfl⟩
  all_goals
    go_enter Tryz.func42, Tryz.ntmps42
    go_wp2_with fail
    refine (is_any M b rest text name 1 attrs w ⟨#[47]⟩ [47] rfl H.out).mono ?_
    rintro e w1 ⟨rfl, hr1, hb1⟩
    rw [G1.out]
    rw [G2.out] at hr1
    have HR1 := Lib.hid hr1
    have HB1 := Lib.hid hb1
    have c1 := hr1.cell1
    have f1 := hr1.free 1
    clear hr1 hb1
    go_wp2_with fail
  · have HR2 := Lib.hid (HR1.out.set1 3)
    have HB2 := Lib.hid (HB1.out.set HR1.out 1 (.int .i64 3))
    clear c1 f1
    generalize w1.setCell ⟨b, 1, none⟩ (.int .i64 3) = w2 at *
    refine (must_any M b t text name 3 attrs w2 ⟨#[62]⟩ 62 rfl HR2.out).mono ?_
    rintro e w3 ⟨hp, hb3⟩
    have HB3 := Lib.hid (HB2.out.trans hb3)
    clear hb3
    have g4 := G4.out
    rcases hp with ⟨u, hm, rfl, hr3⟩ | ⟨hm, rfl⟩
    all_goals
      rw [hm] at g4
      have G5 := Lib.hid g4
      clear g4 hm
    · have HR3 := Lib.hid hr3
      clear hr3
      go_wp2_with fail
      go_ret
      exact ⟨.inl ⟨_, _, G5.out, rfl, HR3.out⟩, HB3.out⟩
    · go_wp2_with fail
      go_ret
      exact ⟨.inr ⟨_, _, G5.out, rfl⟩, HB3.out⟩
  · refine (must_any M b t text name 1 attrs w1 ⟨#[62]⟩ 62 rfl HR1.out).mono ?_
    rintro e w3 ⟨hp, hb3⟩
    have HB3 := Lib.hid (HB1.out.trans hb3)
    clear hb3 c1 f1
    have g4 := G4.out
    rcases hp with ⟨u, hm, rfl, hr3⟩ | ⟨hm, rfl⟩
    all_goals
      rw [hm] at g4
      have G5 := Lib.hid g4
      clear g4 hm
    · have HR3 := Lib.hid hr3
      clear hr3
      go_wp2_with fail
      go_ret
      exact ⟨.inl ⟨_, _, G5.out, rfl, HR3.out⟩, HB3.out⟩
    · go_wp2_with fail
      go_ret
      exact ⟨.inr ⟨_, _, G5.out, rfl⟩, HB3.out⟩

def namedPost (e : Ending) (w' : World) : Prop :=
  (∃ nm t, Pl.nameP rest = .ok nm t ∧ e = .returned .nilIface ∧ RdT M w' b t kind nm attrs text) ∨ (Pl.nameP rest = .bad 50 rest.length ∧ e = .returned (wrongT 50 rest.length))
set_option maxHeartbeats 800000 in
theorem named_any (hl : rest.length ≤ 1000000000) (h : RdT M w b rest kind name attrs text) :
    Calls Tryz.prog 39 #[.pointer (some ⟨b, 0, none⟩)] w fun ev w' => namedPost M b rest text kind attrs ev w' ∧ Fr M w w' := by
  have H := Lib.hid h
  have hlow := h.low
  clear h
  go_enter Tryz.func39, Tryz.ntmps39
  go_wp2_with fail
  refine (name_any M b rest text name kind attrs w hl H.out).mono ?_
  rintro e w1 ⟨hp, hb1⟩
  have HB1 := Lib.hid hb1
  clear hb1
  rcases hp with ⟨nm, t, hm, rfl, hr⟩ | ⟨hm, rfl, hr⟩
  all_goals
    have HM := Lib.hid hm
    have HR := Lib.hid hr
    have c2 := hr.cell2
    have f2 := hr.free 2
    clear hm hr
    go_wp2_with fail
    go_ret
  · exact ⟨.inl ⟨nm, t, HM.out, rfl, HR.out.set2 nm⟩, HB1.out.set HR.out 2 _⟩
  · exact ⟨.inr ⟨HM.out, rfl⟩, HB1.out.set HR.out 2 _⟩

def textPost (e : Ending) (w' : World) : Prop :=
  (∃ t, Pl.get (rest.takeWhile (· != 60)) = .ok t ∧ e = .returned .nilIface ∧ RdT M w' b (rest.drop (rest.takeWhile (· != 60)).length) kind name attrs t) ∨ (∃ (p : Nat) (e' : Int), Pl.get (rest.takeWhile (· != 60)) = .error (p, e') ∧ e = .returned (wrongT e' (rest.length - p)))
set_option maxRecDepth 100000 in
set_option maxHeartbeats 3200000 in
theorem text_any (hE : EnvB M w) (hl : rest.length ≤ 1000000000) (h : RdT M w b rest kind name attrs text) :
    Calls Tryz.prog 43 #[.pointer (some ⟨b, 0, none⟩)] w fun ev w' => textPost M b rest name kind attrs ev w' ∧ Fr M w w' := by
  have H := Lib.hid h
  have HE := Lib.hid hE
  have hlow := h.low
  have c0 := h.cell0
  have hMl := Nat.le_trans h.low (Nat.le_of_lt h.lt)
  have hsz := mk_size rest
  clear h
  have hcutv : ∃ aft fo, Lib.cut rest [60] = (rest.takeWhile (· != 60), aft, fo) := by
    rcases Pl.cut_cases 60 rest with ⟨e, _⟩ | ⟨e, e2⟩
    · exact ⟨_, _, e⟩
    · exact ⟨_, _, by rw [e, e2]⟩
  obtain ⟨aft, fo, hcv⟩ := hcutv
  have hCut := Lib.hid (cut_any rest 60 w hE.env hl)
  have HCV := Lib.hid hcv
  clear hE hcv
  go_enter Tryz.func43, Tryz.ntmps43
  go_wp2_with fail
  refine hCut.out.mono ?_
  rintro e w1 ⟨rfl, hu1⟩
  rw [HCV.out]
  obtain ⟨raw, hraw⟩ : ∃ raw, raw = rest.takeWhile (· != 60) := ⟨_, rfl⟩
  have hrl : raw.length ≤ rest.length := by rw [hraw]; exact (List.takeWhile_prefix _).length_le
  rw [← hraw]
  have HRAW := Lib.hid hraw
  have HR1 := Lib.hid (H.out.up hu1)
  have HB1 := Lib.hid (Fr.of_up hu1 hMl)
  have hM1 : M ≤ w1.heap.size := Nat.le_trans hMl hu1.size
  clear hu1 hCut hraw
  go_wp2_with fail
  refine (get_any raw w1 (HE.out.fr HB1.out).env (by omega)).mono ?_
  rintro e w2 ⟨rfl, hu2⟩
  have HR2 := Lib.hid (HR1.out.up hu2)
  have HB2 := Lib.hid (HB1.out.trans (Fr.of_up hu2 hM1))
  have c02 := HR2.out.cell0
  have c42 := HR2.out.cell4
  have f0 := HR2.out.free 0
  have f4 := HR2.out.free 4
  clear hu2 c0
  cases hg : Pl.get raw with
  | error pe =>
    obtain ⟨p, er⟩ := pe
    rw [getV_err hg]
    have hp : p ≤ raw.length := Pl.get_err_le _ _ _ _ (Nat.le_refl _) hg
    have hne : (er != 0) = true := by rcases Pl.get_err_code _ _ _ _ (Nat.le_refl _) hg with h | h <;> rw [h] <;> rfl
    have hcut := cut_end rest p
    have HG := Lib.hid hg
    clear hg c42 f4
    go_wp2_with fail
    have HR3 := Lib.hid (HR2.out.set0 (rest.drop p))
    have HB3 := Lib.hid (HB2.out.set HR2.out 0 (.string (mk (rest.drop p))))
    generalize w2.setCell ⟨b, 0, none⟩ (.string (mk (rest.drop p))) = w3 at *
    clear c02 f0
    refine (tfail_any M b _ text name kind attrs w3 er HR3.out).mono ?_
    rintro e w4 ⟨rfl, rfl⟩
    rw [List.length_drop]
    go_wp2_with fail
    go_ret
    exact ⟨.inr ⟨p, er, by rw [← HRAW.out]; exact HG.out, rfl⟩, HB3.out⟩
  | ok t =>
    rw [getV_ok hg]
    have HG := Lib.hid hg
    have hcut := cut_end rest raw.length
    have hszr := mk_size raw
    clear hg
    go_wp2_with fail
    go_region
    all_goals
      go_wp2_with fail
      go_ret
      refine ⟨.inl ⟨t, by rw [← HRAW.out]; exact HG.out, rfl, ?_⟩, ?_⟩
      · rw [← HRAW.out]
        first
        | exact ((HR2.out.set4 t).set0 _).drew
        | exact ((HR2.out.set0 _).set4 t).drew
      · first
        | exact ((HB2.out.set HR2.out 4 _).set (HR2.out.set4 t) 0 _).drew
        | exact ((HB2.out.set HR2.out 0 _).set (HR2.out.set0 _) 4 _).drew
end
end Go.Proofs.YtckfgkmfeklcmaaGreatDoor

/- Tokens: readers one behind the other. -/
namespace Go.Proofs.YtckfgkmfeklcmaaGreatDoor
open Go.RowKit Go.Shelf
attribute [local go_sem] Oper.semAt_some

abbrev meth (K b : Nat) : Value := .func (.func K) #[.pointer (some ⟨b, 0, none⟩)] #[]
def Enters (K : Nat) : Prop := ∀ args w, (callFunc K args).run Tryz.prog w = .ok (.enter K args) w
/-- what one reader of 'all' may end with -/
def stepPost (R : Ending → World → Prop) (G : World → Prop) (e : Ending) (w' : World) : Prop :=
  (∃ (e' : Int) (n : Nat), e = .returned (wrongT e' n) ∧ R e w') ∨ (e = .returned .nilIface ∧ G w')

set_option maxRecDepth 100000 in
set_option maxHeartbeats 1600000 in
theorem all_two (K1 K2 b g : Nat) (w : World) (R : Ending → World → Prop) (e1 : Enters K1) (e2 : Enters K2) (hb : w.heap[g]? = some (.cells #[meth K1 b, meth K2 b] 64 (0, 0)))
    (h1 : Calls Tryz.prog K1 #[.pointer (some ⟨b, 0, none⟩)] w (stepPost R fun w1 => w1.heap[g]? = w.heap[g]? ∧ Calls Tryz.prog K2 #[.pointer (some ⟨b, 0, none⟩)] w1 (stepPost R fun w2 => R (.returned .nilIface) w2))) :
    Calls Tryz.prog 38 #[.slice (some ⟨g, 0, none⟩) 2 2] w R := by
  have c0 : w.cell? ⟨g, 0, none⟩ = some (meth K1 b) := cell_of_block hb 0
  unfold Enters at e1 e2
  have H1 := Lib.hid h1
  have HB := Lib.hid hb
  clear h1 hb
  go_enter Tryz.func38, Tryz.ntmps38
  go_wp2
  refine wp_loop_rounds 3 ?_
  go_wp2_with (with_reducible refine rounds_go ?_)
  refine H1.out.mono ?_
  rintro e w1 (⟨e', n, rfl, hr⟩ | ⟨rfl, hg, h2⟩)
  · have HR := Lib.hid hr
    unfold wrongT at *
    clear hr c0
    go_wp2_with (with_reducible refine rounds_go ?_)
    first
    | exact HR.out
    | (go_ret; exact HR.out)
  · have c1 : w1.cell? ⟨g, 1, none⟩ = some (meth K2 b) := cell_of_block (hg.trans HB.out) 1
    have H2 := Lib.hid h2
    clear h2 hg c0
    go_wp2_with (with_reducible refine rounds_go ?_)
    refine H2.out.mono ?_
    rintro e w2 (⟨e', n, rfl, hr⟩ | ⟨rfl, hr⟩)
    · have HR := Lib.hid hr
      unfold wrongT at *
      clear hr c1
      go_wp2_with (with_reducible refine rounds_go ?_)
      first
      | exact HR.out
      | (go_ret; exact HR.out)
    · have HR := Lib.hid hr
      clear hr c1
      go_wp2_with (with_reducible refine rounds_go ?_)
      first
      | exact HR.out
      | (go_ret; exact HR.out)
set_option maxRecDepth 100000 in
set_option maxHeartbeats 1600000 in
theorem all_three (K1 K2 K3 b g : Nat) (w : World) (R : Ending → World → Prop) (e1 : Enters K1) (e2 : Enters K2) (e3 : Enters K3) (hb : w.heap[g]? = some (.cells #[meth K1 b, meth K2 b, meth K3 b] 64 (0, 0)))
    (h1 : Calls Tryz.prog K1 #[.pointer (some ⟨b, 0, none⟩)] w (stepPost R fun w1 => w1.heap[g]? = w.heap[g]? ∧ Calls Tryz.prog K2 #[.pointer (some ⟨b, 0, none⟩)] w1 (stepPost R fun w2 => w2.heap[g]? = w.heap[g]? ∧ Calls Tryz.prog K3 #[.pointer (some ⟨b, 0, none⟩)] w2 (stepPost R fun w3 => R (.returned .nilIface) w3)))) :
    Calls Tryz.prog 38 #[.slice (some ⟨g, 0, none⟩) 3 3] w R := by
  have c0 : w.cell? ⟨g, 0, none⟩ = some (meth K1 b) := cell_of_block hb 0
  unfold Enters at e1 e2 e3
  have H1 := Lib.hid h1
  have HB := Lib.hid hb
  clear h1 hb
  go_enter Tryz.func38, Tryz.ntmps38
  go_wp2
  refine wp_loop_rounds 4 ?_
  go_wp2_with (with_reducible refine rounds_go ?_)
  refine H1.out.mono ?_
  rintro e w1 (⟨e', n, rfl, hr⟩ | ⟨rfl, hg, h2⟩)
  · have HR := Lib.hid hr
    unfold wrongT at *
    clear hr c0
    go_wp2_with (with_reducible refine rounds_go ?_)
    first
    | exact HR.out
    | (go_ret; exact HR.out)
  · have c1 : w1.cell? ⟨g, 1, none⟩ = some (meth K2 b) := cell_of_block (hg.trans HB.out) 1
    have H2 := Lib.hid h2
    clear h2 hg c0
    go_wp2_with (with_reducible refine rounds_go ?_)
    refine H2.out.mono ?_
    rintro e w2 (⟨e', n, rfl, hr⟩ | ⟨rfl, hg, h3⟩)
    · have HR := Lib.hid hr
      unfold wrongT at *
      clear hr c1
      go_wp2_with (with_reducible refine rounds_go ?_)
      first
      | exact HR.out
      | (go_ret; exact HR.out)
    · have c2 : w2.cell? ⟨g, 2, none⟩ = some (meth K3 b) := cell_of_block (hg.trans HB.out) 2
      have H3 := Lib.hid h3
      clear h3 hg c1
      go_wp2_with (with_reducible refine rounds_go ?_)
      refine H3.out.mono ?_
      rintro e w3 (⟨e', n, rfl, hr⟩ | ⟨rfl, hr⟩)
      · have HR := Lib.hid hr
        unfold wrongT at *
        clear hr c2
        go_wp2_with (with_reducible refine rounds_go ?_)
        first
        | exact HR.out
        | (go_ret; exact HR.out)
      · have HR := Lib.hid hr
        clear hr c2
        go_wp2_with (with_reducible refine rounds_go ?_)
        first
        | exact HR.out
        | (go_ret; exact HR.out)

section
variable (M b : Nat) (rest : List UInt8) (w : World)
def tokPost (e : Ending) (w' : World) : Prop :=
  (∃ x t, Pl.tokP rest = .ok x t ∧ e = .returned .nilIface ∧ RdT M w' b t x.kind x.name (x.attrs, x.attrs.map Prod.fst) x.text) ∨ (∃ (e' : Int) (n : Nat), Pl.tokP rest = .bad e' n ∧ e = .returned (wrongT e' n))
theorem tokPost_ok {M b : Nat} {rest t : List UInt8} {x : Pl.Tok} {e : Ending} {w' : World} (h : Pl.tokP rest = .ok x t) (h1 : e = .returned .nilIface) (h2 : RdT M w' b t x.kind x.name (x.attrs, x.attrs.map Prod.fst) x.text) : tokPost M b rest e w' := .inl ⟨x, t, h, h1, h2⟩
theorem tokPost_bad {M b : Nat} {rest : List UInt8} {e' : Int} {n : Nat} {e : Ending} {w' : World} (h : Pl.tokP rest = .bad e' n) (h1 : e = .returned (wrongT e' n)) : tokPost M b rest e w' := .inr ⟨e', n, h, h1⟩
theorem ent_named : Enters 39 := fun args w => enters_of Tryz.func39 (by kernel_rfl) rfl args w
theorem ent_closes : Enters 40 := fun args w => enters_of Tryz.func40 (by kernel_rfl) rfl args w
theorem ent_attrs : Enters 41 := fun args w => enters_of Tryz.func41 (by kernel_rfl) rfl args w
theorem ent_ends : Enters 42 := fun args w => enters_of Tryz.func42 (by kernel_rfl) rfl args w

/-- the readers of what closes an element, one behind the other -/
theorem close_steps (g : Nat) (t : List UInt8) (hl : t.length ≤ 1000000000) (hcp : Pl.tokP rest = Pl.closeP t) (hr : RdT M w b t 2 [] ([], []) []) (hg : w.heap[g]? = some (.cells #[meth 39 b, meth 40 b] 64 (0, 0))) :
    Calls Tryz.prog 38 #[.slice (some ⟨g, 0, none⟩) 2 2] w fun e w' => tokPost M b rest e w' ∧ Fr M w w' := by
  refine all_two _ _ b g w _ ent_named ent_closes hg ((named_any M b t [] [] 2 ([], []) w hl hr).mono ?_)
  rintro e w1 ⟨hn, hf1⟩
  rcases hn with ⟨nm, s1, hnp, rfl, hr1⟩ | ⟨hnp, rfl⟩
  · refine .inr ⟨rfl, (hf1.keep _ _ _ (.inl rfl) hg).trans hg.symm, (closes_any M b s1 [] nm 2 ([], []) w1 hr1).mono ?_⟩
    rintro e w2 ⟨hc, hf2⟩
    rcases hc with ⟨u, hm, rfl, hr2⟩ | ⟨hm, rfl⟩
    · refine .inr ⟨rfl, tokPost_ok (x := ⟨2, nm, [], []⟩) (t := u) ?_ rfl hr2, hf1.trans hf2⟩
      rw [hcp]; unfold Pl.closeP; rw [hnp]; simp only [hm]
    · refine .inl ⟨50, _, rfl, tokPost_bad ?_ rfl, hf1.trans hf2⟩
      rw [hcp]; unfold Pl.closeP; rw [hnp]; simp only [hm]
  · refine .inl ⟨50, _, rfl, tokPost_bad ?_ rfl, hf1⟩
    rw [hcp]; unfold Pl.closeP; rw [hnp]
theorem open_steps (g : Nat) (t : List UInt8) (hE : EnvB M w) (hl : t.length ≤ 1000000000) (hcp : Pl.tokP rest = Pl.openP t) (hr : RdT M w b t 1 [] ([], []) []) (hg : w.heap[g]? = some (.cells #[meth 39 b, meth 41 b, meth 42 b] 64 (0, 0))) :
    Calls Tryz.prog 38 #[.slice (some ⟨g, 0, none⟩) 3 3] w fun e w' => tokPost M b rest e w' ∧ Fr M w w' := by
  refine all_three _ _ _ b g w _ ent_named ent_attrs ent_ends hg ((named_any M b t [] [] 1 ([], []) w hl hr).mono ?_)
  rintro e w1 ⟨hn, hf1⟩
  rcases hn with ⟨nm, s1, hnp, rfl, hr1⟩ | ⟨hnp, rfl⟩
  · have hs1 : s1.length ≤ 1000000000 := by have h1 := (Pl.nameP_ok hnp).1; rw [h1, List.length_append] at hl; omega
    refine .inr ⟨rfl, (hf1.keep _ _ _ (.inl rfl) hg).trans hg.symm, (attrs_any M b s1 [] nm 1 w1 (hE.fr hf1) hs1 hr1).mono ?_⟩
    rintro e w2 ⟨ha, hf2⟩
    rcases ha with ⟨l', s2, hap, rfl, hr2⟩ | ⟨e', n, hap, rfl⟩
    · refine .inr ⟨rfl, ((hf1.trans hf2).keep _ _ _ (.inl rfl) hg).trans hg.symm, (ends_any M b s2 [] nm (l', l'.map Prod.fst) w2 hr2).mono ?_⟩
      rintro e w3 ⟨he, hf3⟩
      rcases he with ⟨k, u, hep, rfl, hr3⟩ | ⟨e', n, hep, rfl⟩
      · refine .inr ⟨rfl, tokPost_ok (x := ⟨k, nm, l', []⟩) (t := u) ?_ rfl hr3, (hf1.trans hf2).trans hf3⟩
        rw [hcp]; unfold Pl.openP; rw [hnp]; simp only [hap, hep]
      · refine .inl ⟨e', n, rfl, tokPost_bad ?_ rfl, (hf1.trans hf2).trans hf3⟩
        rw [hcp]; unfold Pl.openP; rw [hnp]; simp only [hap, hep]
    · refine .inl ⟨e', n, rfl, tokPost_bad ?_ rfl, hf1.trans hf2⟩
      rw [hcp]; unfold Pl.openP; rw [hnp]; simp only [hap]
  · refine .inl ⟨50, _, rfl, tokPost_bad ?_ rfl, hf1⟩
    rw [hcp]; unfold Pl.openP; rw [hnp]
end
end Go.Proofs.YtckfgkmfeklcmaaGreatDoor

/- Tokens: Next. -/
namespace Pl
theorem two_prefix (l : Bytes) : (∃ t, l = 60 :: 47 :: t ∧ Go.Lib.hasPrefix l [60, 47] = true ∧ Go.Lib.trimPrefix l [60, 47] = t) ∨ ((∀ t, l ≠ 60 :: 47 :: t) ∧ Go.Lib.hasPrefix l [60, 47] = false ∧ Go.Lib.trimPrefix l [60, 47] = l) := by
  match l with
  | [] => exact .inr ⟨by simp, rfl, rfl⟩
  | [c] =>
    have hp : Go.Lib.hasPrefix [c] [60, 47] = false := by simp [Go.Lib.hasPrefix, List.isPrefixOf]
    exact .inr ⟨by simp, hp, by simp [Go.Lib.trimPrefix, hp]⟩
  | c :: d :: t =>
    by_cases h : c = 60 ∧ d = 47
    · obtain ⟨rfl, rfl⟩ := h
      exact .inl ⟨t, rfl, by simp [Go.Lib.hasPrefix], by simp [Go.Lib.trimPrefix, Go.Lib.hasPrefix]⟩
    · have hp : Go.Lib.hasPrefix (c :: d :: t) [60, 47] = false := by
        simp only [Go.Lib.hasPrefix, List.isPrefixOf, Bool.and_true, Bool.and_eq_false_iff, beq_eq_false_iff_ne, ne_eq]
        by_cases h1 : c = 60
        · exact .inr (fun e => h ⟨h1, e.symm⟩)
        · exact .inl (fun e => h1 e.symm)
      exact .inr ⟨by intro t e; injection e with e1 e; injection e with e2 _; exact h ⟨e1, e2⟩, hp, by simp [Go.Lib.trimPrefix, hp]⟩
end Pl
namespace Go.Proofs.YtckfgkmfeklcmaaGreatDoor
open Go.RowKit Go.Shelf
attribute [local go_sem] Oper.semAt_some

section
variable (M b : Nat) (rest : List UInt8) (w : World)
set_option maxRecDepth 100000 in
set_option maxHeartbeats 3200000 in
theorem token_any (hE : EnvB M w) (hl : rest.length ≤ 1000000000) (h : RdT M w b rest 0 [] ([], []) []) :
    Calls Tryz.prog 26 #[.pointer (some ⟨b, 0, none⟩)] w fun e w' => tokPost M b rest e w' ∧ Fr M w w' := by
  have hmf := @run_makeFunc Tryz.prog
  have H := Lib.hid h
  have HE := Lib.hid hE
  have c0 := h.cell0
  have hMl := Nat.le_trans h.low (Nat.le_of_lt h.lt)
  clear h hE
  by_cases h0 : rest = []
  · subst h0
    have hbeq : ((mk []).toList == []) = true := by rw [mk_toList]; rfl
    go_enter Tryz.func26, Tryz.ntmps26
    go_wp2_with fail
    refine (tfail_any M b [] [] [] 0 ([], []) w 10 H.out).mono ?_
    rintro e w1 ⟨rfl, rfl⟩
    go_wp2_with fail
    go_ret
    exact ⟨tokPost_bad rfl rfl, Fr.refl _ _⟩
  · have hbeq : ((mk rest).toList == []) = false := by rw [mk_toList]; simpa using h0
    rcases Pl.two_prefix rest with ⟨t, hr, p1, p2⟩ | ⟨hn, p1, p2⟩
    · have htp : Pl.tokP rest = Pl.closeP t := by rw [hr]; rfl
      have htl : t.length ≤ 1000000000 := by rw [hr] at hl; simp at hl; omega
      have P1 := Lib.hid p1
      have P2 := Lib.hid p2
      have HTP := Lib.hid htp
      clear hr p1 p2 htp h0
      go_enter Tryz.func26, Tryz.ntmps26
      go_wp2_with fail
      refine (is_any M b rest [] [] 0 ([], []) w ⟨#[60, 47]⟩ [60, 47] rfl H.out).mono ?_
      rintro e w1 ⟨rfl, hr1, hf1⟩
      rw [P1.out]
      rw [P2.out] at hr1
      have c1 := hr1.cell1
      have f1 := hr1.free 1
      have HR1 := Lib.hid hr1
      have HF1 := Lib.hid hf1
      clear hr1 hf1 c0 hbeq
      go_wp2_with fail
      have HR2 := Lib.hid (HR1.out.set1 2)
      have HF2 := Lib.hid (HF1.out.set HR1.out 1 (.int .i64 2))
      clear c1 f1
      rw [show w1.heap.size = (w1.setCell ⟨b, 1, none⟩ (.int .i64 2)).heap.size from by simp]
      generalize w1.setCell ⟨b, 1, none⟩ (.int .i64 2) = w2 at *
      have hM2 : M ≤ w2.heap.size := Nat.le_trans HR2.out.low (Nat.le_of_lt HR2.out.lt)
      refine (close_steps M b rest (w2.alloc (.cells #[meth 39 b, meth 40 b] 64)) w2.heap.size t htl HTP.out (HR2.out.up ((Up.self _).alloc _)) (heap_new rfl)).mono ?_
      rintro e w3 ⟨hp, hf3⟩
      have HF3 := Lib.hid ((HF2.out.trans (Fr.of_up ((Up.self w2).alloc _) hM2)).trans hf3)
      rcases hp with ⟨x, u, q1, rfl, q2⟩ | ⟨e', n, q1, rfl⟩
      · have Q1 := Lib.hid q1
        have Q2 := Lib.hid q2
        clear q1 q2 hf3
        go_wp2_with fail
        go_ret
        exact ⟨tokPost_ok Q1.out rfl Q2.out, HF3.out⟩
      · have Q1 := Lib.hid q1
        clear q1 hf3
        go_wp2_with fail
        go_ret
        exact ⟨tokPost_bad Q1.out rfl, HF3.out⟩
    · by_cases h6 : ∃ t, rest = 60 :: t
      · obtain ⟨t, hr⟩ := h6
        have htp : Pl.tokP rest = Pl.openP t := by rw [hr]; exact Pl.tokP_open (fun u e => hn u (by rw [hr, e]))
        have htl : t.length ≤ 1000000000 := by rw [hr] at hl; simp at hl; omega
        have p3 : Lib.hasPrefix rest [60] = true := by rw [hr]; simp [Lib.hasPrefix]
        have p4 : Lib.trimPrefix rest [60] = t := by rw [hr]; simp [Lib.trimPrefix, Lib.hasPrefix]
        have P1 := Lib.hid p1
        have P2 := Lib.hid p2
        have P3 := Lib.hid p3
        have P4 := Lib.hid p4
        have HTP := Lib.hid htp
        clear hr p1 p2 p3 p4 htp h0 hn
        go_enter Tryz.func26, Tryz.ntmps26
        go_wp2_with fail
        refine (is_any M b rest [] [] 0 ([], []) w ⟨#[60, 47]⟩ [60, 47] rfl H.out).mono ?_
        rintro e w0 ⟨rfl, hr0, hf0⟩
        rw [P1.out]
        rw [P2.out] at hr0
        have HR0 := Lib.hid hr0
        have HF0 := Lib.hid hf0
        clear hr0 hf0 c0 hbeq
        go_wp2_with fail
        refine (is_any M b rest [] [] 0 ([], []) w0 ⟨#[60]⟩ [60] rfl HR0.out).mono ?_
        rintro e w1 ⟨rfl, hr1, hf1⟩
        rw [P3.out]
        rw [P4.out] at hr1
        have c1 := hr1.cell1
        have f1 := hr1.free 1
        have HR1 := Lib.hid hr1
        have HF1 := Lib.hid (HF0.out.trans hf1)
        clear hr1 hf1
        go_wp2_with fail
        have HR2 := Lib.hid (HR1.out.set1 1)
        have HF2 := Lib.hid (HF1.out.set HR1.out 1 (.int .i64 1))
        clear c1 f1
        rw [show w1.heap.size = (w1.setCell ⟨b, 1, none⟩ (.int .i64 1)).heap.size from by simp]
        generalize w1.setCell ⟨b, 1, none⟩ (.int .i64 1) = w2 at *
        have hM2 : M ≤ w2.heap.size := Nat.le_trans HR2.out.low (Nat.le_of_lt HR2.out.lt)
        have HF3 := Lib.hid (HF2.out.trans (Fr.of_up ((Up.self w2).alloc (.cells #[meth 39 b, meth 41 b, meth 42 b] 64)) hM2))
        refine (open_steps M b rest (w2.alloc (.cells #[meth 39 b, meth 41 b, meth 42 b] 64)) w2.heap.size t (HE.out.fr HF3.out) htl HTP.out (HR2.out.up ((Up.self _).alloc _)) (heap_new rfl)).mono ?_
        rintro e w3 ⟨hp, hf3⟩
        have HF4 := Lib.hid (HF3.out.trans hf3)
        rcases hp with ⟨x, u, q1, rfl, q2⟩ | ⟨e', n, q1, rfl⟩
        · have Q1 := Lib.hid q1
          have Q2 := Lib.hid q2
          clear q1 q2 hf3
          go_wp2_with fail
          go_ret
          exact ⟨tokPost_ok Q1.out rfl Q2.out, HF4.out⟩
        · have Q1 := Lib.hid q1
          clear q1 hf3
          go_wp2_with fail
          go_ret
          exact ⟨tokPost_bad Q1.out rfl, HF4.out⟩
      · have htp : Pl.tokP rest = Pl.textP rest := Pl.tokP_text h0 (fun u e => h6 ⟨u, e⟩)
        have p34 : Lib.hasPrefix rest [60] = false ∧ Lib.trimPrefix rest [60] = rest := by
          rcases one_prefix 60 rest with ⟨t, e, _⟩ | ⟨_, e1, e2, _⟩
          · exact absurd ⟨t, e⟩ h6
          · exact ⟨e1, e2⟩
        have P1 := Lib.hid p1
        have P2 := Lib.hid p2
        have P3 := Lib.hid p34.1
        have P4 := Lib.hid p34.2
        have HTP := Lib.hid htp
        clear p1 p2 p34 htp h0 hn h6
        go_enter Tryz.func26, Tryz.ntmps26
        go_wp2_with fail
        refine (is_any M b rest [] [] 0 ([], []) w ⟨#[60, 47]⟩ [60, 47] rfl H.out).mono ?_
        rintro e w0 ⟨rfl, hr0, hf0⟩
        rw [P1.out]
        rw [P2.out] at hr0
        have HR0 := Lib.hid hr0
        have HF0 := Lib.hid hf0
        clear hr0 hf0 c0 hbeq
        go_wp2_with fail
        refine (is_any M b rest [] [] 0 ([], []) w0 ⟨#[60]⟩ [60] rfl HR0.out).mono ?_
        rintro e w1 ⟨rfl, hr1, hf1⟩
        rw [P3.out]
        rw [P4.out] at hr1
        have c1 := hr1.cell1
        have f1 := hr1.free 1
        have HR1 := Lib.hid hr1
        have HF1 := Lib.hid (HF0.out.trans hf1)
        clear hr1 hf1
        go_wp2_with fail
        have HR2 := Lib.hid (HR1.out.set1 4)
        have HF2 := Lib.hid (HF1.out.set HR1.out 1 (.int .i64 4))
        clear c1 f1
        generalize w1.setCell ⟨b, 1, none⟩ (.int .i64 4) = w2 at *
        refine (text_any M b rest [] [] 4 ([], []) w2 (HE.out.fr HF2.out) hl HR2.out).mono ?_
        rintro e w3 ⟨hp, hf3⟩
        have HF3 := Lib.hid (HF2.out.trans hf3)
        rcases hp with ⟨tx, q1, rfl, q2⟩ | ⟨p, e', q1, rfl⟩
        · have Q1 := Lib.hid q1
          have Q2 := Lib.hid q2
          clear q1 q2 hf3
          go_wp2_with fail
          go_ret
          refine ⟨tokPost_ok (x := ⟨4, [], [], tx⟩) (by rw [HTP.out]; exact Pl.textP_mk Q1.out) rfl Q2.out, HF3.out⟩
        · have Q1 := Lib.hid q1
          clear q1 hf3
          go_wp2_with fail
          go_ret
          exact ⟨tokPost_bad (by rw [HTP.out]; unfold Pl.textP; simp only [Q1.out]) rfl, HF3.out⟩
end
end Go.Proofs.YtckfgkmfeklcmaaGreatDoor

/- Tokens: Next. -/
namespace Go.Proofs.YtckfgkmfeklcmaaGreatDoor
open Go.RowKit Go.Shelf
attribute [local go_sem] Oper.semAt_some

/-- a slice of attributes, wherever it lies -/
def AttrsAt (w : World) (v : Value) (l : List (List UInt8 × List UInt8)) : Prop := ∃ base, w.ownsRow base 43 2 v l.length (va l)
theorem AttrsAt.up {w w' : World} {v : Value} {l : List (List UInt8 × List UInt8)} (h : AttrsAt w v l) (u : Up w w') : AttrsAt w' v l := by
  obtain ⟨base, h⟩ := h
  exact ⟨base, row_keeps h fun g c hg => (u.block g (lt_of_block hg)).trans hg⟩
def tokV (x : Pl.Tok) (v : Value) : Value := .agg #[.int .i64 x.kind, .string (mk x.name), v, .string (mk x.text)]
def nextPost (s : List UInt8) (e : Ending) (w' : World) : Prop :=
  (∃ x r v, Pl.tokP s = .ok x r ∧ e = .returned (.tuple #[tokV x v, .int .i64 ((s.length : Int) - r.length), .int .i64 0, .int .i64 0]) ∧ AttrsAt w' v x.attrs) ∨
  (∃ (e' : Int) (n : Nat), Pl.tokP s = .bad e' n ∧ e = .returned (.tuple #[tokV Pl.tok0 (.slice none 0 0), .int .i64 0, .int .i64 ((s.length : Int) - n), .int .i64 e']))
theorem EnvB.mono {M M' : Nat} {w : World} (h : EnvB M w) (hM : M ≤ M') : EnvB M' w := fun v hv => h v fun k hk => hv k (by omega)

set_option maxRecDepth 100000 in
set_option maxHeartbeats 3200000 in
theorem next_any' (s : List UInt8) (w : World) (h : Env w) (hs : s.length ≤ 1000000000) :
    Calls Tryz.prog 14 #[.string (mk s)] w fun e w' => nextPost s e w' ∧ Up w w' := by
  have hmm := @run_makeMap Tryz.prog
  have hsz := mk_size s
  have H := Lib.hid h
  clear h
  go_enter Tryz.func14, Tryz.ntmps14
  go_wp2_with fail
  obtain ⟨W1, hW1⟩ : ∃ W1, W1 = ((((w.alloc (Obj.cells #[Value.int IntKind.i64 0, Value.string { data := #[] }, Value.slice none 0 0, Value.string { data := #[] }] 24)).alloc (Obj.map #[] 0)).alloc (Obj.cells #[Value.string (mk s), Value.int IntKind.i64 0, Value.string { data := #[] }, Value.slice none 0 0, Value.string { data := #[] }, Value.map (some (w.heap.size + 1))] 60)).alloc (Obj.cells #[Value.int IntKind.i64 0, Value.int IntKind.i64 0] 62)) := ⟨_, rfl⟩
  rw [← hW1]
  have hu1 : Up w W1 := by rw [hW1]; exact ((((Up.self w).alloc _).alloc _).alloc _).alloc _
  have hs1 : W1.heap.size = w.heap.size + 4 := by rw [hW1]; simp
  have hres : W1.heap[w.heap.size]? = some (.cells #[.int .i64 0, .string { data := #[] }, .slice none 0 0, .string { data := #[] }] 24 (0, 0)) := by
    rw [hW1, Below.heap_alloc _ _ _ (by simp <;> omega), Below.heap_alloc _ _ _ (by simp <;> omega), Below.heap_alloc _ _ _ (by simp)]; exact heap_new rfl
  have hmap : MapAt W1 (w.heap.size + 1) (metKv []) := by
    refine ⟨#[], 0, ?_, rfl, by simp⟩
    rw [hW1, Below.heap_alloc _ _ _ (by simp <;> omega), Below.heap_alloc _ _ _ (by simp)]; exact heap_new (by simp)
  have hb : W1.heap[w.heap.size + 1 + 1]? = some (.cells #[.string (mk s), .int .i64 0, .string (mk []), .slice none 0 0, .string (mk []), .map (some (w.heap.size + 1))] 60 (0, 0)) := by
    rw [hW1, Below.heap_alloc _ _ _ (by simp)]; exact heap_new (by simp)
  have hwv : W1.heap[w.heap.size + 1 + 1 + 1]? = some (.cells #[.int .i64 0, .int .i64 0] 62 (0, 0)) := by rw [hW1]; exact heap_new (by simp)
  have hrd : RdT (w.heap.size + 1) W1 (w.heap.size + 1 + 1) s 0 [] ([], []) [] := ⟨by omega, _, _, hb, World.ownsRow_nil _ _ _ _, by omega, hmap⟩
  have hE1 : EnvB (w.heap.size + 1) W1 := ((EnvB.of H.out).below hu1).mono (by omega)
  have HE1 := Lib.hid hE1
  have HU1 := Lib.hid hu1
  have HRES := Lib.hid hres
  have HWV := Lib.hid hwv
  have HT := Lib.hid (token_any (w.heap.size + 1) (w.heap.size + 1 + 1) s W1 hE1 hs hrd)
  clear hE1 hu1 hres hwv hrd hb hmap hW1
  refine HT.out.mono ?_
  rintro e w2 ⟨hp, hf⟩
  have hres2 : w2.heap[w.heap.size]? = _ := (hf.below.block w.heap.size (by omega)).trans HRES.out
  have hwv2 := hf.keep _ _ _ (.inr rfl) HWV.out
  have hu2 : Up w w2 := Below.trans HU1.out (hf.below.mono (by omega))
  have hE2 : Env w2 := (HE1.out.fr hf).env
  have HRES2 := Lib.hid hres2
  have HWV2 := Lib.hid hwv2
  have HU2 := Lib.hid hu2
  have HE2 := Lib.hid hE2
  clear hres2 hwv2 hu2 hE2 hf HT
  rcases hp with ⟨x, r, q1, rfl, q2⟩ | ⟨e', n, q1, rfl⟩
  · have Q1 := Lib.hid q1
    have Q2 := Lib.hid q2
    have hrl : r.length ≤ s.length := Nat.le_of_lt (Pl.tokP_lt q1)
    clear q1 q2
    go_wp2_with fail
    refine (as_nil _ w2).mono ?_
    rintro e w3 ⟨rfl, rfl⟩
    obtain ⟨v, mb, g1, g2, g3, g4⟩ := Q2.out.lay
    obtain ⟨sa, scap, rfl⟩ := row_slice g2
    have c0 := cell_of_block g1 0
    have c1 := cell_of_block g1 1
    have c2 := cell_of_block g1 2
    have c3 := cell_of_block g1 3
    have c4 := cell_of_block g1 4
    have d0 := cell_of_block HRES2.out 0
    have d1 := cell_of_block HRES2.out 1
    have d2 := cell_of_block HRES2.out 2
    have d3 := cell_of_block HRES2.out 3
    have f0 := frozen_of_block HRES2.out 0
    have f1 := frozen_of_block HRES2.out 1
    have f2 := frozen_of_block HRES2.out 2
    have f3 := frozen_of_block HRES2.out 3
    have hszr := mk_size r
    have hwr := i64_in ((s.length : Int) - r.length) (by omega) (by omega)
    have G2 := Lib.hid g2
    have G1 := Lib.hid g1
    clear g1 g2 g4
    go_wp2_with fail
    go_region
    have hres5 : ((((w3.setCell ⟨w.heap.size, 0, none⟩ (.int .i64 x.kind)).setCell ⟨w.heap.size, 1, none⟩ (.string (mk x.name))).setCell ⟨w.heap.size, 2, none⟩ (.slice sa x.attrs.length scap)).setCell ⟨w.heap.size, 3, none⟩ (.string (mk x.text))).drew.heap[w.heap.size]? =
        some (.cells #[.int .i64 x.kind, .string (mk x.name), .slice sa x.attrs.length scap, .string (mk x.text)] 24 (0, 0)) :=
      heap_setCell_at (i := 3) (heap_setCell_at (i := 2) (heap_setCell_at (i := 1) (heap_setCell_at (i := 0) HRES2.out)))
    have hu5 : Up w ((((w3.setCell ⟨w.heap.size, 0, none⟩ (.int .i64 x.kind)).setCell ⟨w.heap.size, 1, none⟩ (.string (mk x.name))).setCell ⟨w.heap.size, 2, none⟩ (.slice sa x.attrs.length scap)).setCell ⟨w.heap.size, 3, none⟩ (.string (mk x.text))).drew :=
      (Below.setCell (Below.setCell (Below.setCell (Below.setCell HU2.out (p := ⟨w.heap.size, 0, none⟩) (Nat.le_refl _) _) (p := ⟨w.heap.size, 1, none⟩) (Nat.le_refl _) _) (p := ⟨w.heap.size, 2, none⟩) (Nat.le_refl _) _) (p := ⟨w.heap.size, 3, none⟩) (Nat.le_refl _) _).drew
    have hat5 : AttrsAt ((((w3.setCell ⟨w.heap.size, 0, none⟩ (.int .i64 x.kind)).setCell ⟨w.heap.size, 1, none⟩ (.string (mk x.name))).setCell ⟨w.heap.size, 2, none⟩ (.slice sa x.attrs.length scap)).setCell ⟨w.heap.size, 3, none⟩ (.string (mk x.text))).drew (.slice sa x.attrs.length scap) x.attrs :=
      ⟨w.heap.size + 1, ownsRow_setCell_below (ownsRow_setCell_below (ownsRow_setCell_below (ownsRow_setCell_below G2.out (by simp) _) (by simp) _) (by simp) _) (by simp) _⟩
    generalize ((((w3.setCell ⟨w.heap.size, 0, none⟩ (.int .i64 x.kind)).setCell ⟨w.heap.size, 1, none⟩ (.string (mk x.name))).setCell ⟨w.heap.size, 2, none⟩ (.slice sa x.attrs.length scap)).setCell ⟨w.heap.size, 3, none⟩ (.string (mk x.text))).drew = W5 at *
    have HU5 := Lib.hid hu5
    have HAT5 := Lib.hid hat5
    have k0 : W5.cell? ⟨w.heap.size, 0, none⟩ = some (.int .i64 x.kind) := cell_of_block hres5 0
    have k1 : W5.cell? ⟨w.heap.size, 1, none⟩ = some (.string (mk x.name)) := cell_of_block hres5 1
    have k2 : W5.cell? ⟨w.heap.size, 2, none⟩ = some (.slice sa x.attrs.length scap) := cell_of_block hres5 2
    have k3 : W5.cell? ⟨w.heap.size, 3, none⟩ = some (.string (mk x.text)) := cell_of_block hres5 3
    clear hu5 hat5 hres5 c0 c1 c2 c3 c4 d0 d1 d2 d3 f0 f1 f2 f3 hwr
    go_wp2_with fail
    exact bodyPost_ret (v := .tuple #[tokV x (.slice sa x.attrs.length scap), .int .i64 ((s.length : Int) - r.length), .int .i64 0, .int .i64 0]) (by simp [results, Tryz.results14, go_sem, tokV, k0, k1, k2, k3]) rfl ⟨.inl ⟨x, r, _, Q1.out, rfl, HAT5.out⟩, HU5.out⟩
  · have Q1 := Lib.hid q1
    have hnl : n ≤ s.length := (Pl.tokP_wrong q1).2
    clear q1
    unfold wrongT
    go_wp2_with fail
    refine (tW_hit e' (n : Int) (w.heap.size + 1 + 1 + 1) _ _ w2 HE2.out.et HWV2.out).mono ?_
    rintro e w3 ⟨rfl, w2', hu2', hw3⟩
    have hl2 : w.heap.size < w2.heap.size := lt_of_block HRES2.out
    have hwv3 : w3.heap[w.heap.size + 1 + 1 + 1]? = some (.cells #[.int .i64 e', .int .i64 (n : Int)] 62 (0, 0)) := by
      rw [hw3]; exact heap_setCell_at (i := 1) (heap_setCell_at (i := 0) ((hu2'.block _ (lt_of_block HWV2.out)).trans HWV2.out))
    have hres3 : w3.heap[w.heap.size]? = some (.cells #[.int .i64 0, .string { data := #[] }, .slice none 0 0, .string { data := #[] }] 24 (0, 0)) := by
      rw [hw3, Below.heap_setCell _ _ _ _ (by show w.heap.size ≠ _; simp; omega), Below.heap_setCell _ _ _ _ (by show w.heap.size ≠ _; simp; omega)]
      exact (hu2'.block _ hl2).trans HRES2.out
    have hu3 : Up w w3 := by
      rw [hw3]; exact Below.setCell (Below.setCell (Up.trans HU2.out hu2') (p := ⟨w.heap.size + 1 + 1 + 1, 0, none⟩) (by simp; omega) _) (p := ⟨w.heap.size + 1 + 1 + 1, 1, none⟩) (by simp; omega) _
    have HU3 := Lib.hid hu3
    have HRES3 := Lib.hid hres3
    have c0 := cell_of_block hwv3 0
    have c1 := cell_of_block hwv3 1
    have d0 := cell_of_block hres3 0
    have d1 := cell_of_block hres3 1
    have d2 := cell_of_block hres3 2
    have d3 := cell_of_block hres3 3
    have f0 := frozen_of_block hres3 0
    have f1 := frozen_of_block hres3 1
    have f2 := frozen_of_block hres3 2
    have f3 := frozen_of_block hres3 3
    have hwr := i64_in ((s.length : Int) - n) (by omega) (by omega)
    clear hwv3 hres3 hu3 hw3 hu2'
    go_wp2_with fail
    go_region
    have hres5 : ((((w3.setCell ⟨w.heap.size, 0, none⟩ (.int .i64 0)).setCell ⟨w.heap.size, 1, none⟩ (.string { data := #[] })).setCell ⟨w.heap.size, 2, none⟩ (.slice none 0 0)).setCell ⟨w.heap.size, 3, none⟩ (.string { data := #[] })).drew.heap[w.heap.size]? =
        some (.cells #[.int .i64 0, .string { data := #[] }, .slice none 0 0, .string { data := #[] }] 24 (0, 0)) :=
      heap_setCell_at (i := 3) (heap_setCell_at (i := 2) (heap_setCell_at (i := 1) (heap_setCell_at (i := 0) HRES3.out)))
    have hu5 : Up w ((((w3.setCell ⟨w.heap.size, 0, none⟩ (.int .i64 0)).setCell ⟨w.heap.size, 1, none⟩ (.string { data := #[] })).setCell ⟨w.heap.size, 2, none⟩ (.slice none 0 0)).setCell ⟨w.heap.size, 3, none⟩ (.string { data := #[] })).drew :=
      (Below.setCell (Below.setCell (Below.setCell (Below.setCell HU3.out (p := ⟨w.heap.size, 0, none⟩) (Nat.le_refl _) _) (p := ⟨w.heap.size, 1, none⟩) (Nat.le_refl _) _) (p := ⟨w.heap.size, 2, none⟩) (Nat.le_refl _) _) (p := ⟨w.heap.size, 3, none⟩) (Nat.le_refl _) _).drew
    generalize ((((w3.setCell ⟨w.heap.size, 0, none⟩ (.int .i64 0)).setCell ⟨w.heap.size, 1, none⟩ (.string { data := #[] })).setCell ⟨w.heap.size, 2, none⟩ (.slice none 0 0)).setCell ⟨w.heap.size, 3, none⟩ (.string { data := #[] })).drew = W5 at *
    have HU5 := Lib.hid hu5
    have k0 : W5.cell? ⟨w.heap.size, 0, none⟩ = some (.int .i64 0) := cell_of_block hres5 0
    have k1 : W5.cell? ⟨w.heap.size, 1, none⟩ = some (.string { data := #[] }) := cell_of_block hres5 1
    have k2 : W5.cell? ⟨w.heap.size, 2, none⟩ = some (.slice none 0 0) := cell_of_block hres5 2
    have k3 : W5.cell? ⟨w.heap.size, 3, none⟩ = some (.string { data := #[] }) := cell_of_block hres5 3
    have htz : tokV Pl.tok0 (.slice none 0 0) = .agg #[.int .i64 0, .string { data := #[] }, .slice none 0 0, .string { data := #[] }] := rfl
    clear hu5 hres5 c0 c1 d0 d1 d2 d3 f0 f1 f2 f3 hwr
    go_wp2_with fail
    exact bodyPost_ret (v := .tuple #[tokV Pl.tok0 (.slice none 0 0), .int .i64 0, .int .i64 ((s.length : Int) - n), .int .i64 e']) (by rw [htz]; simp [results, Tryz.results14, go_sem, k0, k1, k2, k3]) rfl ⟨.inr ⟨e', n, Q1.out, rfl⟩, HU5.out⟩
end Go.Proofs.YtckfgkmfeklcmaaGreatDoor
