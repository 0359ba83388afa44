/- A token that came in, opened. -/
import Derived.Test.YtckfgkmfeklcmaaGreatDoorKCardE
import Derived.Test.YtckfgkmfeklcmaaGreatDoorGL
set_option linter.unusedVariables false
set_option linter.unusedSimpArgs false
namespace Go.Proofs.YtckfgkmfeklcmaaGreatDoor
open Go.ChangeShapes Go.WideShapes Go.ChangeAt Go.RowKit Go.Joins Go.Deep
set_option maxRecDepth 100000

theorem cardAttrC : Tryz.prog.cellsOf 43 = 2 := by kernel_rfl
theorem cardTokC : Tryz.prog.cellsOf 24 = 4 := by kernel_rfl
theorem attr_open {H : Type} {enc : TypeId × Value → H} {W : World} {fuel : Nat} {a : Addr} {cs : List Value} {y : DataW H × List MemPlace} (h1 : W.cells? 0 a 2 = some cs)
    (h : DataW.trod enc Tryz.prog W 0 (fun _ => true) true fuel 43 cs = some y) :
    ∃ x : List UInt8 × List UInt8, ∃ g o, a = ⟨g, o, none⟩ ∧ W.cell? ⟨g, o, none⟩ = some (.string (mk x.1)) ∧ W.cell? ⟨g, o + 1, none⟩ = some (.string (mk x.2)) := by
  obtain ⟨_, hl, hc⟩ := World.cells?_some h1
  obtain ⟨y0, y1, n, _, _, k0, k1⟩ := trod_struct2 Tryz.underlying43 h
  match cs, hl with
  | [c0, c1], _ =>
    have e2 : Tryz.prog.cellsOf 9 = 1 := cardC2
    simp only [e2, List.drop_zero, List.take_succ_cons, List.take_zero, List.drop_succ_cons] at k0 k1
    obtain ⟨s0, q0, _, _⟩ := DataW.trod_string Tryz.underlying9 k0
    obtain ⟨s1, q1, _, _⟩ := DataW.trod_string Tryz.underlying9 k1
    injection q0 with q0 _
    injection q1 with q1 _
    subst q0
    subst q1
    have c0 := hc 0 (by omega)
    have c1 := hc 1 (by omega)
    obtain ⟨g, o, spot⟩ := a
    have hspot : spot = none := by simpa [Addr.add] using World.cell?_spot c0
    subst hspot
    refine ⟨(s0.data.toList, s1.data.toList), g, o, rfl, ?_, ?_⟩
    · rw [mk_of]; simpa [Addr.add] using c0
    · rw [mk_of]; simpa [Addr.add] using c1
theorem attrs_open {H : Type} {enc : TypeId × Value → H} {W : World} {fuel : Nat} {v : Value} {y : DataW H × List MemPlace}
    (h : DataW.trod enc Tryz.prog W 0 (fun _ => true) true fuel 22 [v] = some y) : ∃ l, AttrsIn W v l := by
  rcases open_slice Tryz.underlying22 h with ⟨hcs, _⟩ | ⟨a, len, cap, m, n, D, Pl, hcs, _, hle, _, hm, _, hel⟩
  · injection hcs with hcs _
    exact ⟨[], none, 0, hcs, fun k hk => absurd hk (Nat.not_lt_zero _)⟩
  · injection hcs with hcs _
    have hm' : m = cap := by rw [hm]; rfl
    obtain ⟨f, hf⟩ := choose_lt (α := List UInt8 × List UInt8) (n := len) (p := fun i x => ∃ g o, a.add (i * 2) = ⟨g, o, none⟩ ∧ W.cell? ⟨g, o, none⟩ = some (.string (mk x.1)) ∧ W.cell? ⟨g, o + 1, none⟩ = some (.string (mk x.2))) (fun i hi => by
      obtain ⟨cs', h1, h2⟩ := hel i (by omega)
      rw [cardAttrC] at h1
      obtain ⟨x, g, o, e1, e2, e3⟩ := attr_open h1 h2
      exact ⟨x, g, o, e1, e2, e3⟩)
    refine ⟨(List.range len).map f, some a, cap, by simpa using hcs, fun k hk => ?_⟩
    have hk' : k < len := by simpa using hk
    have hgd : ((List.range len).map f).getD k ([], []) = f k := by simp [List.getD, hk']
    rw [hgd]
    obtain ⟨g0, o0, e0, _, _⟩ := hf 0 (by omega)
    have ea : a = ⟨g0, o0, none⟩ := by simpa [Addr.add] using e0
    obtain ⟨g, o, e1, e2, e3⟩ := hf k hk'
    rw [ea, add_plain] at e1
    injection e1 with e4 e5 _
    subst e4
    subst e5
    exact ⟨g0, o0, by rw [ea], e2, e3⟩
theorem tok_open {H : Type} {enc : TypeId × Value → H} {W : World} {base : Nat} {v : Value} {d : DataW H} {p : List MemPlace} (hv : Value.okWide Tryz.prog W .any base 24 v)
    (h : DataW.Trod enc Tryz.prog W 0 (fun _ => true) true 24 v d p) : ∃ x, TokIn W v x := by
  obtain ⟨v0, v1, v2, v3, y0, y1, y2, y3, n, rfl, _, _, k0, k1, k2, k3⟩ := open_agg4 Tryz.underlying24 (by kernel_rfl) cardTokC hv h
  obtain ⟨z, e0, _, _⟩ := DataW.trod_int Tryz.underlying3 k0
  obtain ⟨s1, e1, _, _⟩ := DataW.trod_string Tryz.underlying9 k1
  obtain ⟨s3, e3, _, _⟩ := DataW.trod_string Tryz.underlying9 k3
  obtain ⟨l, hl⟩ := attrs_open k2
  injection e0 with e0 _
  injection e1 with e1 _
  injection e3 with e3 _
  subst e0
  subst e1
  subst e3
  exact ⟨⟨z, s1.data.toList, l, s3.data.toList⟩, v2, by unfold tokV; rw [mk_of, mk_of], hl⟩
end Go.Proofs.YtckfgkmfeklcmaaGreatDoor
