/- What the rows' lists give: the program's variables as they were laid (Env); the wrap that keeps the world's shape; a world for the witness. -/
import Derived.Test.YtckfgkmfeklcmaaGreatDoorCards
import Derived.Test.YtckfgkmfeklcmaaGreatDoorTie
import Derived.Test.YtckfgkmfeklcmaaGreatDoorGH
import Derived.ProofKit
import Derived.OpenShut
import Derived.HandedShaped
import Derived.LaidHandle
import Derived.LaidSub
import Derived.PinnedBridge
import Derived.Lib.LaidU8T
import Derived.Lay
import Derived.SevenTiedAt
import Derived.Deep.Slices
import Derived.Lib.SmallJoins
import Derived.Shelf.Vars
set_option linter.unusedVariables false
set_option linter.unusedSimpArgs false
namespace Go.Proofs.YtckfgkmfeklcmaaGreatDoor
open Go.ChangeShapes Go.WideShapes Go.ChangeAt Go.RowKit Go.Lib Go.Shelf
set_option maxRecDepth 100000

/-- the wrap over listed variables, the world's shape kept -/
theorem handed_and_shaped {H : Type} {enc : TypeId × Value → H} {a : Assume} {C : Checked} {os : Os} {f : FuncId} {fn : Func} {s : ChangeSpec} {conds : List PathCond} {apart fresh handsOn again : Bool} {X : World → Array Value → Prop}
    (hX : ∀ (w w' : World) (args : Array Value), w.heap = w'.heap → X w args → X w' args)
    (own : ownKnob C.prog.godebug = none) (started : os.Started) (noInit : C.prog.inits.idxOf? f = none) (hfn : C.prog.funcs[f]? = some fn)
    (witness : ∃ (w : World) (tape : Tape) (i : Input), w.os = os ∧ (w.forCall tape i).Shaped C.prog ∧ i.vars = [] ∧ Input.okWide C.prog (w.forCall tape i) .any w.heap.size f i ∧
      ((s.pre enc C.prog fn conds apart (w.forCall tape i).memory i.args ∧ X (w.forCall tape i).memory i.args) ∧ sizedMet enc C.prog fn (OpenSpec.ofChange s) apart (w.forCall tape i).memory i.args) ∧ a.holds C.prog (lone (Frame.enter C.prog f i.args .normal) [] (w.forCall tape i)))
    (contract : ∀ (W : World) (base : Nat) (args : Array Value) (ds gs : List (DataW H)) (before : List MemPlace),
      (∀ (j : Nat) t v, fn.params[j]? = some t → args[j]? = some v → Value.okWide C.prog W .any base t v) →
      DataW.Whole enc C.prog fn.params.toList s.vars apart W args.toList ds gs before → W.ShapedOpen C.prog → X W args →
      Calls C.prog f args W fun e W' => ∃ v, e = .returned v ∧ s.post enc C.prog fn apart fresh handsOn again W args v W') :
    ReturnsInHanded a C os f .any (fun w args => (s.pre enc C.prog fn conds apart w args ∧ X w args) ∧ sizedMet enc C.prog fn (OpenSpec.ofChange s) apart w args) (s.post enc C.prog fn apart fresh handsOn again) := by
  refine returnsInHanded_of_calls own started noInit witness ?_
  intro w tape i _ hsh _ hok hpre _
  obtain ⟨_, _, _, fn', hfn', _, _, _, _, hval⟩ := hok
  have e : fn' = fn := Option.some.inj (hfn'.symm.trans hfn)
  subst e
  obtain ⟨⟨⟨ds, gs, before, hw, _⟩, hx⟩, _⟩ := hpre
  have hw' := DataW.Whole.of_heap (w' := w.forCall tape i) (by rfl) hw
  refine (contract (w.forCall tape i) w.heap.size i.args ds gs before hval hw' hsh (hX _ _ _ (by rfl) hx)).mono fun e W' ⟨v, he, hp⟩ => ?_
  subst he
  exact ChangeSpec.post_blind hp

def listed : List (String × DataW Unit) := [("unicode/utf8.acceptRanges", Rows.laid_unicode_utf8_acceptRanges), ("errors.errorType", Rows.laid_errors_errorType), ("pleacher/num.errBase", Rows.laid_pleacher_num_errBase), ("pleacher/num.errNum", Rows.laid_pleacher_num_errNum), ("unicode/utf8.first", Rows.laid_unicode_utf8_first)]
def listedP : List (String × DataW Unit) := [("unicode/utf8.acceptRanges", Rows.laid_unicode_utf8_acceptRanges), ("pleacher/num.errBase", Rows.laid_pleacher_num_errBase), ("pleacher/num.errNum", Rows.laid_pleacher_num_errNum), ("unicode/utf8.first", Rows.laid_unicode_utf8_first)]
def listedH : List (String × DataW Unit) := [("errors.errorType", Rows.laid_errors_errorType)]
theorem listed_plain : (listed.filter fun x => x.2.handleName?.isNone) = listedP := by rfl
theorem listed_handles : (listed.filter fun x => x.2.handleName?.isSome) = listedH := by rfl

def renT : Ren := { f := id, g := fun n => if n = 3 then 3 else 4, t := fun n => if n = 5 then 5 else if n = 119 then 249 else if n = 138 then 251 else 252 }
theorem tabs_of {W : World} (h : laidMet Tryz.prog listedP W) : Lib.Utf8Tabs 3 4 W :=
  utf8Tabs_of_readsT (ρ := renT) (U8Types.mk Tryz.underlying5 Tryz.underlying249 Tryz.underlying251 Tryz.underlying252)
    ⟨by kernel_rfl, by kernel_rfl, by kernel_rfl, by kernel_rfl, by kernel_rfl, by kernel_rfl, by kernel_rfl⟩
    (by have := Lib.laidMet.reads h (n := "unicode/utf8.first") (d := Rows.laid_unicode_utf8_first) (by simp [listedP]); rw [← Pinned.utf8First_eq]; exact this)
    (by have := Lib.laidMet.reads h (n := "unicode/utf8.acceptRanges") (d := Rows.laid_unicode_utf8_acceptRanges) (by simp [listedP]); exact this)

theorem cardG1 : Tryz.prog.globalNamed "pleacher/num.errBase" = some 2 := by kernel_rfl
theorem cardG2 : Tryz.prog.globalNamed "pleacher/num.errNum" = some 5 := by kernel_rfl
theorem cardG1T : (Tryz.prog.globals[2]?).map (·.type) = some 49 := by kernel_rfl
theorem cardG2T : (Tryz.prog.globals[5]?).map (·.type) = some 49 := by kernel_rfl
theorem cardC1 : Tryz.prog.cellsOf 297 = 1 := by kernel_rfl
theorem cardC2 : Tryz.prog.cellsOf 9 = 1 := by kernel_rfl
theorem cardStar : "*" ++ "errors.errorString" = "*errors.errorString" := by decide
theorem cardRow (u : TypeId) (h : Tryz.prog.typeName? 3 u = some "*errors.errorString") : u = 279 :=
  typeName_ptr_named (nm := "errors.errorString") (by rw [cardStar]; kernel_rfl) (by kernel_rfl) (by decide) u (by rw [cardStar]; exact h)
theorem errs_of {W : World} (h : laidMet Tryz.prog listedP W) : ∃ a b, ErrsAt W a b := by
  obtain ⟨ps, ⟨gx, tx, csx, fx, px, qx, _, _, _, _, ⟨g0, t0, cs0, f0, p0, q0, hg0, ht0, hv0, hd0, ⟨g1, t1, cs1, f1, p1, q1, hg1, ht1, hv1, hd1, _, e1⟩, e0⟩, ex⟩, hnd, hrows⟩ := h
  obtain rfl := Option.some.inj (cardG1.symm.trans hg0)
  obtain rfl := Option.some.inj (cardG2.symm.trans hg1)
  obtain rfl := Option.some.inj (cardG1T.symm.trans ht0)
  obtain rfl := Option.some.inj (cardG2T.symm.trans ht1)
  subst e1
  subst e0
  subst ex
  obtain ⟨l0⟩ := cs0
  obtain ⟨l1⟩ := cs1
  have ok0 : ∀ u v, l0 = [.iface u v] → Value.okWide Tryz.prog W .any 0 u v := fun u v e => by
    subst e
    exact (hrows 2 0 (by simp [MemPlace.row])).2 u v (by simpa using World.var?_cell hg0 hv0 0)
  have ok1 : ∀ u v, l1 = [.iface u v] → Value.okWide Tryz.prog W .any 0 u v := fun u v e => by
    subst e
    exact (hrows 5 0 (by simp [MemPlace.row])).2 u v (by simpa using World.var?_cell hg1 hv1 0)
  obtain ⟨a0, s0, rfl, hc0, hs0, hz0, rfl⟩ := errorString_of_trod Tryz.underlying49 cardRow Tryz.underlying279 Tryz.underlying297 rfl rfl Tryz.underlying9 cardC1 cardC2 hd0 ok0
  obtain ⟨a1, s1, rfl, hc1, hs1, hz1, rfl⟩ := errorString_of_trod Tryz.underlying49 cardRow Tryz.underlying279 Tryz.underlying297 rfl rfl Tryz.underlying9 cardC1 cardC2 hd1 ok1
  obtain ⟨c0, t0, hb0⟩ := (hrows a0.block a0.off (by simp [MemPlace.row])).1
  obtain ⟨c1, t1, hb1⟩ := (hrows a1.block a1.off (by simp [MemPlace.row])).1
  refine ⟨a0, a1, ⟨by simpa using World.var?_cell hg0 hv0 0, by simpa using World.var?_cell hg1 hv1 0, ⟨_, _, hb0⟩, ⟨_, _, hb1⟩, ?_⟩⟩
  rintro rfl
  have h2 := (List.nodup_append.1 hnd).2.1
  have h3 := (List.nodup_append.1 h2).2.2
  exact h3 (.cell a0.block a0.off) (by simp [MemPlace.row]) (.cell a0.block a0.off) (by simp [MemPlace.row]) rfl

theorem cardErr : Tryz.prog.globalNamed "errors.errorType" = some 0 := by kernel_rfl
theorem cardRt : (Tryz.prog.cutTypes.find? (·.1 == "internal/reflectlite.rtype")).map (·.2) = some 108 := by kernel_rfl
theorem cardSize : Tryz.prog.types.size = 308 := by kernel_rfl
theorem cardOne : ((List.range 308).filter fun t => Tryz.prog.rowNamed t [101, 114, 114, 111, 114]) = [49] := by kernel_rfl
theorem handle_of {W : World} (h : handlesMet Tryz.prog listedH W) : W.cell? ⟨0, 0, none⟩ = some (.iface 108 (.agg #[.pointer (some ⟨6, 49, none⟩)])) := by
  obtain ⟨name, u, ty, e1, e2, e3, e4, e5⟩ := h _ (List.mem_singleton.2 rfl)
  have en : name = [101, 114, 114, 111, 114] := (Option.some.inj e1).symm
  subst en
  obtain rfl := Option.some.inj (cardRt.symm.trans e2)
  have hm : ty ∈ (List.range 308).filter fun t => Tryz.prog.rowNamed t [101, 114, 114, 111, 114] := List.mem_filter.2 ⟨List.mem_range.2 (by rw [← cardSize]; exact e3), e4⟩
  rw [cardOne] at hm
  obtain rfl := List.mem_singleton.1 hm
  have hh : typeHandle Tryz.prog 49 = .pointer (some ⟨6, 49, none⟩) := by kernel_rfl
  rw [hh] at e5
  simpa using World.var?_cell cardErr e5 0
theorem cardMost {W : World} (h : W.ShapedOpen Tryz.prog) : ∃ m : Int, W.cell? ⟨1, 0, none⟩ = some (.int .i64 m) :=
  cell_of_shapedOpen_int (zero := #[.int .i64 0]) (t := 3) h (of_decide_eq_true (by kernel_rfl)) (by kernel_rfl) rfl (by kernel_rfl) (by kernel_rfl) Tryz.underlying3
theorem env_of {W : World} (hL : laidMetH Tryz.prog listed W) (hsh : W.ShapedOpen Tryz.prog) : Env W := by
  obtain ⟨h1, h2⟩ := laidMetH_iff.1 hL
  rw [listed_plain] at h1
  rw [listed_handles] at h2
  exact ⟨errs_of h1, cardMost hsh, tabs_of h1, handle_of h2⟩

/-- a world that meets the condition -/
noncomputable def heldWorld (os : Os) : World :=
  let w0 := World.holding Tryz.prog os ⟨#[], #[], []⟩
  { w0 with heap := w0.heap.modify 0 fun
      | .cells _ t frozen => .cells #[.iface 108 (.agg #[.pointer (some ⟨6, 49, none⟩)])] t frozen
      | o => o }
noncomputable def laidWorld (os : Os) : World := (heldWorld os).layVars Tryz.prog listedP
theorem laidWorld_os (os : Os) : (laidWorld os).os = os := World.layVars_os _ _ _
theorem laidWorld_shaped (os : Os) : (laidWorld os).Shaped Tryz.prog := World.shaped_of_ZipB (by kernel_rfl) (by kernel_rfl)
theorem laidWorld_met0 (os : Os) : laidMet Tryz.prog listedP (laidWorld os) := by
  have e1 : (listedP.filter fun x => (listedP.map (·.1)).contains x.1) = listedP := List.filter_eq_self.2 fun x hx => List.contains_iff_mem.2 (List.mem_map.2 ⟨x, hx, rfl⟩)
  have e2 : (listedP.filter fun x => !(listedP.map (·.1)).contains x.1) = [] := List.filter_eq_nil_iff.2 fun x hx => by rw [List.contains_iff_mem.2 (List.mem_map.2 ⟨x, hx, rfl⟩)]; simp
  exact laidMet_layVars (w0 := heldWorld os) (listedP.map (·.1)) [] (by rw [e1]; rfl) (by rw [e1]; kernel_rfl) (by rw [e1]; kernel_rfl) (by rw [e2]; exact LaidIn.none)
theorem laidWorld_met (os : Os) (args : Array Value) : laidMetH Tryz.prog listed ((laidWorld os).forCall (fun _ _ => 0) ⟨#[], args, []⟩).memory := by
  refine laidMetH_of_parts ?_ (by kernel_rfl)
  rw [listed_plain]
  exact (laidWorld_met0 os).of_heap (by simp [World.memory, World.forCall, Input.heap])
theorem cardOwn : ownKnob Tryz.prog.godebug = none := by kernel_rfl
theorem cardLaid : laidOutB Tryz.prog = true := by kernel_rfl
end Go.Proofs.YtckfgkmfeklcmaaGreatDoor
