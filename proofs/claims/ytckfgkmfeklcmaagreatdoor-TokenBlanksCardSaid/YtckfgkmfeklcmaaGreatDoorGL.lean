/- The texts TokJ, TokK, TokL, TokM, TokO of this claim in one: the walks and plain laws that the statement's proof rests on. -/
import Derived.Test.YtckfgkmfeklcmaaGreatDoorGK
import Derived.Laws.StructEq
import Derived.ScopeJumps
import Derived.WalkMore
import Derived.Test.YtckfgkmfeklcmaaGreatDoorGA
set_option linter.unusedVariables false
set_option linter.unusedSimpArgs false
/- Tokens: which are the same. -/
namespace Go.Proofs.YtckfgkmfeklcmaaGreatDoor
open Go.RowKit Go.Shelf
attribute [local go_sem] Oper.semAt_some

/-- a slice whose cells read as these attributes -/
def AttrsIn (w : World) (v : Value) (l : List (List UInt8 × List UInt8)) : Prop := ∃ a cap, v = .slice a l.length cap ∧ ∀ k, k < l.length → ∃ g o, a = some ⟨g, o, none⟩ ∧ w.cell? ⟨g, o + k * 2, none⟩ = some (.string (mk (l.getD k ([], [])).1)) ∧ w.cell? ⟨g, o + k * 2 + 1, none⟩ = some (.string (mk (l.getD k ([], [])).2))
theorem AttrsIn.up {w w' : World} {v : Value} {l : List (List UInt8 × List UInt8)} (h : AttrsIn w v l) (u : Up w w') : AttrsIn w' v l := by
  obtain ⟨a, cap, h1, h2⟩ := h
  refine ⟨a, cap, h1, fun k hk => ?_⟩
  obtain ⟨g, o, e1, e2, e3⟩ := h2 k hk
  exact ⟨g, o, e1, (u.cells.1 _ _ (lt_of_cell e2)).trans e2, (u.cells.1 _ _ (lt_of_cell e2)).trans e3⟩
theorem va_at (l : List (List UInt8 × List UInt8)) : ∀ k, k < l.length → (va l)[k * 2]? = some (.string (mk (l.getD k ([], [])).1)) ∧ (va l)[k * 2 + 1]? = some (.string (mk (l.getD k ([], [])).2)) := by
  induction l with
  | nil => intro k hk; simp at hk
  | cons a t ih =>
    intro k hk
    have e : va (a :: t) = .string (mk a.1) :: .string (mk a.2) :: va t := by simp [va]
    cases k with
    | zero => rw [e]; exact ⟨rfl, rfl⟩
    | succ k =>
      have := ih k (by simpa using hk)
      rw [e, show (k + 1) * 2 = k * 2 + 1 + 1 by omega]
      simpa using this
theorem AttrsAt.reads {w : World} {v : Value} {l : List (List UInt8 × List UInt8)} (h : AttrsAt w v l) : AttrsIn w v l := by
  obtain ⟨base, h⟩ := h
  obtain ⟨a, cap, rfl⟩ := row_slice h
  refine ⟨a, cap, rfl, fun k hk => ?_⟩
  have h' := h
  rcases h.2 with ⟨hv, h0⟩ | ⟨g, cap', cur, hv, _, hg, _⟩
  · omega
  · injection hv with ha _ _
    subst ha
    obtain ⟨v1, v2⟩ := va_at l k hk
    have c1 := h'.cells (g := g) rfl (k * 2) _ v1
    have c2 := h'.cells (g := g) rfl (k * 2 + 1) _ v2
    refine ⟨g, 0, rfl, ?_, ?_⟩
    · rw [← c1]; congr 1; unfold Addr.add; split <;> simp_all
    · rw [← c2]; congr 1

theorem Tryz.fieldsAttr : Tryz.prog.underlying 43 = some (.struct (Tryz.prog.fieldsOf 43)) := by kernel_rfl
theorem Tryz.heldAttr : Tryz.prog.stoodInHeld 43 = false := by kernel_rfl
theorem Tryz.guardAttr : Tryz.prog.eqGuardType Tryz.prog.depth 43 = false := by kernel_rfl
theorem attr_fields3 : (Tryz.prog.fieldsOf 43).toList.map (fun f => (f.name, f.type, f.offset)) = [("Name", 9, 0), ("Value", 9, 1)] := by kernel_rfl
theorem attr_fields : ∃ f g : Field, (Tryz.prog.fieldsOf 43).toList = [f, g] ∧ f.name ≠ "_" ∧ g.name ≠ "_" ∧ f.type = 9 ∧ g.type = 9 ∧ f.offset = 0 ∧ g.offset = 1 := by
  have h := attr_fields3
  cases hl : (Tryz.prog.fieldsOf 43).toList with
  | nil => rw [hl] at h; cases h
  | cons f t =>
    cases t with
    | nil => rw [hl] at h; simp at h
    | cons g t =>
      rw [hl] at h
      simp only [List.map_cons, List.cons.injEq, Prod.mk.injEq, List.map_eq_nil_iff] at h
      obtain ⟨⟨a1, a2, a3⟩, ⟨b1, b2, b3⟩, rfl⟩ := h
      exact ⟨f, g, rfl, by rw [a1]; decide, by rw [b1]; decide, a2, b2, a3, b3⟩
theorem attr_part0 (a b : ByteArray) (w : World) : (part 9 #[.string a, .string b] 0).run Tryz.prog w = .ok (.string a) w := by kernel_rfl
theorem attr_part1 (a b : ByteArray) (w : World) : (part 9 #[.string a, .string b] 1).run Tryz.prog w = .ok (.string b) w := by kernel_rfl
theorem attr_equalIn (d : Nat) (a b c e : ByteArray) (w : World) : (Op.equalIn (d + 1 + 1) 43 (.agg #[.string a, .string b]) (.agg #[.string c, .string e])).run Tryz.prog w = .ok ((a.toList == c.toList) && (b.toList == e.toList)) w := by
  obtain ⟨f, g, h1, h2, h3, h4, h5, h6, h7⟩ := attr_fields
  have q := fun (x y : ByteArray) (W : World) => run_equalIn_string W d 9 x y Tryz.underlying9
  rw [run_equalIn_agg w (d + 1) _ _ _ Tryz.fieldsAttr Tryz.heldAttr, h1]
  simp only [Op.eqFields, Sem.run_bind, h2, h3, ne_eq, not_false_eq_true, if_true, h4, h5, h6, h7, attr_part0, attr_part1, Result.andThen, q]
  cases h1 : (a.toList == c.toList) <;> cases h2 : (b.toList == e.toList) <;> simp only [Bool.not_false, Bool.not_true, if_true, Bool.false_eq_true, if_false, Sem.run_pure, Sem.run_bind, Sem.run_ite, attr_part1, q, Result.andThen, h2, Bool.and_self, Bool.and_true, Bool.and_false, Bool.false_and, Bool.true_and]
theorem attr_neq (a b c e : ByteArray) (w : World) : (binOp .neq 43 (.agg #[.string a, .string b]) (.agg #[.string c, .string e])).run Tryz.prog w = .ok (.bool (!((a.toList == c.toList) && (b.toList == e.toList)))) w := by
  rw [run_neq_struct, show (10000 : Nat) = 9998 + 1 + 1 from rfl, attr_equalIn]; rfl
theorem attr_eql (a b c e : ByteArray) (w : World) : (binOp .eql 43 (.agg #[.string a, .string b]) (.agg #[.string c, .string e])).run Tryz.prog w = .ok (.bool ((a.toList == c.toList) && (b.toList == e.toList))) w := by
  rw [run_eql_struct, show (10000 : Nat) = 9998 + 1 + 1 from rfl, attr_equalIn]; rfl
set_option maxRecDepth 100000 in
set_option maxHeartbeats 1600000 in
theorem equal_any (v1 v2 : Value) (l1 l2 : List (List UInt8 × List UInt8)) (w : World) (h1 : AttrsIn w v1 l1) (h2 : AttrsIn w v2 l2) (hl : l1.length ≤ 1000000000) (hl2 : l2.length ≤ 1000000000) :
    Calls Tryz.prog 23 #[v1, v2] w fun e w' => e = .returned (.bool (decide (l1 = l2))) ∧ Up w w' := by
  obtain ⟨a1, cap1, rfl, c1⟩ := h1
  obtain ⟨a2, cap2, rfl, c2⟩ := h2
  by_cases hlen : l1.length = l2.length
  · have hb : ((l1.length : Int) != (l2.length : Int)) = false := by simp [hlen]
    have C1 := Lib.hid c1
    have C2 := Lib.hid c2
    have HL := Lib.hid hlen
    rw [← hlen] at hb ⊢
    clear c1 c2 hlen
    go_enter Tryz.func23, Tryz.ntmps23
    go_wp2
    go_loopw [5, 13] (fun _ i wr => ∃ k : Nat, k ≤ l1.length ∧ i = .int .i64 (k : Int) ∧ Up w wr ∧ ∀ j, j < k → l1.getD j ([], []) = l2.getD j ([], [])) (fun _ i _ => l1.length - (intOf i).toNat)
    case atStart => exact ⟨0, Nat.zero_le _, rfl, Up.self w, fun j h => absurd h (Nat.not_lt_zero _)⟩
    case round =>
      obtain ⟨k, hk, rfl, hup, hno⟩ := hrel
      have HNO := Lib.hid hno
      have HUP := Lib.hid hup
      clear hno hup
      by_cases hlt : k < l1.length
      · obtain ⟨g1, o1, rfl, p1, p2⟩ := C1.out k hlt
        obtain ⟨g2, o2, rfl, q1, q2⟩ := C2.out k (by have := HL.out; omega)
        have e1 := (HUP.out.cells.1 _ _ (lt_of_cell p1)).trans p1
        have e2 := (HUP.out.cells.1 _ _ (lt_of_cell p1)).trans p2
        have e3 := (HUP.out.cells.1 _ _ (lt_of_cell q1)).trans q1
        have e4 := (HUP.out.cells.1 _ _ (lt_of_cell q1)).trans q2
        clear p1 p2 q1 q2
        have hne := attr_neq
        have hgd := Tryz.guardAttr
        obtain ⟨p, hp⟩ : ∃ p, p = l1.getD k ([], []) := ⟨_, rfl⟩
        obtain ⟨q, hq⟩ : ∃ q, q = l2.getD k ([], []) := ⟨_, rfl⟩
        rw [← hp] at e1 e2
        rw [← hq] at e3 e4
        have HP := Lib.hid hp
        have HQ := Lib.hid hq
        clear hp hq
        go_wp2_with fail
        go_quiet (fail)
        by_cases hpq : p = q
        · have hor : (!((mk p.1).toList == (mk q.1).toList) || !((mk p.2).toList == (mk q.2).toList)) = false := by subst hpq; simp
          rw [hor]
          have HPQ := Lib.hid hpq
          clear hpq hor
          go_wp2_with fail
          go_roundw
          case rel =>
            refine ⟨k + 1, by omega, by go_num, below_drewN HUP.out _, fun j hj => ?_⟩
            by_cases e : j = k
            · subst e; rw [← HP.out, ← HQ.out]; exact HPQ.out
            · exact HNO.out j (by omega)
          case measure => simp [intOf]; omega
        · have hor : (!((mk p.1).toList == (mk q.1).toList) || !((mk p.2).toList == (mk q.2).toList)) = true := by
            rw [mk_toList, mk_toList, mk_toList, mk_toList]
            by_cases h1 : p.1 = q.1
            · have : ¬ p.2 = q.2 := fun e => hpq (Prod.ext h1 e)
              simp [this]
            · simp [h1]
          rw [hor]
          have hne' : decide (l1 = l2) = false := by
            rw [decide_eq_false_iff_not]
            intro e
            exact hpq (by rw [HP.out, HQ.out, e])
          have HNE := Lib.hid hne'
          clear hpq hor hne'
          go_wp2_with fail
          go_ret
          exact ⟨by rw [HNE.out]; rfl, below_drewN HUP.out _⟩
      · go_wp2
        go_ret
        have hk1 : k = l1.length := by omega
        have he : l1 = l2 := by
          apply List.ext_getElem HL.out
          intro j h1 h2
          have := HNO.out j (by omega)
          simpa [List.getD, h1, h2] using this
        exact ⟨by rw [decide_eq_true he]; rfl, HUP.out⟩
  · have hb : ((l1.length : Int) != (l2.length : Int)) = true := by
      have : ¬ (l1.length : Int) = (l2.length : Int) := by omega
      simpa using this
    have hne : decide (l1 = l2) = false := by
      rw [decide_eq_false_iff_not]
      intro e
      exact hlen (by rw [e])
    have HNE := Lib.hid hne
    clear c1 c2 hlen hne
    go_enter Tryz.func23, Tryz.ntmps23
    go_wp2
    go_ret
    exact ⟨by rw [HNE.out]; rfl, Up.self w⟩

/-- a token as a value -/
def TokIn (w : World) (u : Value) (x : Pl.Tok) : Prop := ∃ v, u = tokV x v ∧ AttrsIn w v x.attrs
theorem TokIn.up {w w' : World} {u : Value} {x : Pl.Tok} (h : TokIn w u x) (hu : Up w w') : TokIn w' u x := by
  obtain ⟨v, h1, h2⟩ := h
  exact ⟨v, h1, h2.up hu⟩
set_option maxRecDepth 100000 in
set_option maxHeartbeats 3200000 in
theorem same_any (u1 u2 : Value) (x y : Pl.Tok) (w : World) (h1 : TokIn w u1 x) (h2 : TokIn w u2 y) (hl : x.attrs.length ≤ 1000000000) (hl2 : y.attrs.length ≤ 1000000000) :
    Calls Tryz.prog 12 #[u1, u2] w fun e w' => e = .returned (.bool (decide (x = y))) ∧ Up w w' := by
  obtain ⟨v1, rfl, a1⟩ := h1
  obtain ⟨v2, rfl, a2⟩ := h2
  obtain ⟨k1, n1, l1, t1⟩ := x
  obtain ⟨k2, n2, l2, t2⟩ := y
  unfold tokV
  simp only at *
  have hA1 := a1
  have hA2 := a2
  obtain ⟨s1, cap1, rfl, _⟩ := hA1
  obtain ⟨s2, cap2, rfl, _⟩ := hA2
  have A1 := Lib.hid a1
  have A2 := Lib.hid a2
  have hd : decide ((⟨k1, n1, l1, t1⟩ : Pl.Tok) = ⟨k2, n2, l2, t2⟩) = (decide (k1 = k2) && (decide (n1 = n2) && (decide (l1 = l2) && decide (t1 = t2)))) := by
    rw [Bool.eq_iff_iff]; simp
  have HD := Lib.hid hd
  clear a1 a2 hd
  by_cases hk : k1 = k2
  · have hkb : (k1 == k2) = true := by simpa using hk
    have HK := Lib.hid hk
    by_cases hn : n1 = n2
    · have hnb : ((mk n1).toList == (mk n2).toList) = true := by rw [mk_toList, mk_toList]; simpa using hn
      have HN := Lib.hid hn
      clear hk hn
      go_enter Tryz.func12, Tryz.ntmps12
      go_wp2_with fail
      refine (equal_any _ _ l1 l2 _ (A1.out.up (((Up.self w).alloc _).alloc _)) (A2.out.up (((Up.self w).alloc _).alloc _)) hl hl2).mono ?_
      rintro e w1 ⟨rfl, hu1⟩
      have b1 : w1.heap[w.heap.size]? = some (.cells #[.int .i64 k1, .string (mk n1), .slice s1 l1.length cap1, .string (mk t1)] 24 (0, 0)) := (hu1.block _ (by simp; omega)).trans ((Below.heap_alloc _ _ _ (by simp)).trans (heap_new rfl))
      have b2 : w1.heap[w.heap.size + 1]? = some (.cells #[.int .i64 k2, .string (mk n2), .slice s2 l2.length cap2, .string (mk t2)] 24 (0, 0)) := (hu1.block _ (by simp)).trans (heap_new (by simp))
      have d1 := cell_of_block b1 3
      have d2 := cell_of_block b2 3
      have HU := Lib.hid ((((Up.self w).alloc _).alloc _).trans hu1)
      clear b1 b2 hu1
      by_cases hl12 : l1 = l2
      · have HL := Lib.hid hl12
        rw [decide_eq_true hl12]
        clear hl12
        by_cases ht : t1 = t2
        · have htb : ((mk t1).toList == (mk t2).toList) = true := by rw [mk_toList, mk_toList]; simpa using ht
          have HT := Lib.hid ht
          clear ht
          go_wp2_with fail
          go_ret
          exact ⟨by rw [HD.out, decide_eq_true HK.out, decide_eq_true HN.out, decide_eq_true HL.out, decide_eq_true HT.out]; rfl, HU.out⟩
        · have htb : ((mk t1).toList == (mk t2).toList) = false := by rw [mk_toList, mk_toList]; simpa using ht
          have HT := Lib.hid ht
          clear ht
          go_wp2_with fail
          go_ret
          exact ⟨by rw [HD.out, decide_eq_true HK.out, decide_eq_true HN.out, decide_eq_true HL.out, decide_eq_false HT.out]; rfl, HU.out⟩
      · have HL := Lib.hid hl12
        rw [decide_eq_false hl12]
        clear hl12
        go_wp2_with fail
        go_ret
        exact ⟨by rw [HD.out, decide_eq_true HK.out, decide_eq_true HN.out, decide_eq_false HL.out]; rfl, HU.out⟩
    · have hnb : ((mk n1).toList == (mk n2).toList) = false := by rw [mk_toList, mk_toList]; simpa using hn
      have HN := Lib.hid hn
      clear hk hn
      go_enter Tryz.func12, Tryz.ntmps12
      go_wp2_with fail
      go_ret
      exact ⟨by rw [HD.out, decide_eq_true HK.out, decide_eq_false HN.out]; rfl, ((Up.self w).alloc _).alloc _⟩
  · have hkb : (k1 == k2) = false := by simpa using hk
    have HK := Lib.hid hk
    clear hk
    go_enter Tryz.func12, Tryz.ntmps12
    go_wp2_with fail
    go_ret
    exact ⟨by rw [HD.out, decide_eq_false HK.out]; rfl, ((Up.self w).alloc _).alloc _⟩
end Go.Proofs.YtckfgkmfeklcmaaGreatDoor

/- Tokens: Put. -/
namespace Go.Proofs.YtckfgkmfeklcmaaGreatDoor
open Go.RowKit Go.Shelf
attribute [local go_sem] Oper.semAt_some

/-- a token whose words are short -/
structure SmallT (x : Pl.Tok) : Prop where
  name : x.name.length ≤ 100000
  text : x.text.length ≤ 100000
  num : x.attrs.length ≤ 100
  attrs : ∀ a ∈ x.attrs, a.1.length ≤ 100000 ∧ a.2.length ≤ 100000
theorem escaped_len (s : List UInt8) : (Pl.escaped s).length ≤ 6 * s.length := by
  unfold Pl.escaped Pl.put
  by_cases h : Pl.isText s = true
  · rw [if_pos h]; exact escs_len s
  · rw [if_neg h]; simp
theorem writeA_len (l : List (List UInt8 × List UInt8)) (h : ∀ a ∈ l, a.1.length ≤ 100000 ∧ a.2.length ≤ 100000) : (Pl.writeA l).length ≤ l.length * 700004 := by
  induction l with
  | nil => simp [Pl.writeA]
  | cons a t ih =>
    have h1 := ih (fun x hx => h x (by simp [hx]))
    have h2 := h a (by simp)
    have h3 := escaped_len a.2
    rw [Pl.writeA_cons]
    simp only [List.length_cons, List.length_append]
    omega
def putTV (x : Pl.Tok) : Value := match Pl.putT x with | some a => .tuple #[.string (mk a), .int .i64 0] | none => .tuple #[.string (mk []), .int .i64 50]

theorem Bld.of3 {M b T : Nat} {r : Array Value} {l : List UInt8} {w : World} (h : BldAt M b T r (.pointer (some ⟨b, 0, none⟩)) l w) : Bld M b T r l w := ⟨_, .inr rfl, h⟩
theorem putTV_some {x : Pl.Tok} {S : List UInt8} (h1 : Pl.write x = S) (h2 : Pl.tokP S = .ok x []) : putTV x = .tuple #[.string (mk S), .int .i64 0] := by
  unfold putTV Pl.putT; rw [h1, if_pos h2]
theorem putTV_none {x : Pl.Tok} {S : List UInt8} (h1 : Pl.write x = S) (h2 : Pl.tokP S ≠ .ok x []) : putTV x = .tuple #[.string (mk []), .int .i64 50] := by
  unfold putTV Pl.putT; rw [h1, if_neg h2]

set_option maxRecDepth 100000 in
set_option maxHeartbeats 6400000 in
theorem putT_any (u : Value) (x : Pl.Tok) (w : World) (hE : Env w) (h : TokIn w u x) (hs : SmallT x) :
    Calls Tryz.prog 10 #[u] w fun e w' => e = .returned (putTV x) ∧ Up w w' := by
  have hnot : ∀ (x : Bool) (w : World), (Op.unary .not (.bool x)).run Tryz.prog w = .ok (.bool (!x)) w := fun _ _ => rfl
  obtain ⟨v, rfl, ha⟩ := h
  obtain ⟨kind, name, l, text⟩ := x
  unfold tokV
  have htx : text.length ≤ 100000 := hs.text
  have hnm : name.length ≤ 100000 := hs.name
  have hll : l.length ≤ 100 := hs.num
  have hat : ∀ a ∈ l, a.1.length ≤ 100000 ∧ a.2.length ≤ 100000 := hs.attrs
  simp only at *
  have hA := ha
  obtain ⟨s1, cap1, rfl, _⟩ := hA
  have A := Lib.hid ha
  have HE := Lib.hid hE
  clear ha hE hs
  by_cases h4 : kind = 4
  · have hb4 : (kind == 4) = true := by simpa using h4
    have K4 := Lib.hid h4
    clear h4
    have hel := escaped_len text
    go_enter Tryz.func10, Tryz.ntmps10
    go_wp2_with fail
    refine wp_scope_jumps 0 (fun a' w' => Up ((w.alloc (.cells #[.int .i64 kind, .string (mk name), .slice s1 l.length cap1, .string (mk text)] 24)).alloc (.cells #[.pointer none, .slice none 0 0] 47)) w' ∧ a' = { tmps := #[Value.agg #[Value.int IntKind.i64 kind, Value.string (mk name), Value.slice s1 l.length cap1, Value.string (mk text)],
          Value.pointer (some { block := w.heap.size, off := 0 }), Value.string { data := #[] },
          Value.int IntKind.i64 0, Value.pointer (some { block := w.heap.size + 1, off := 0 }),
          Value.string (mk (Pl.escaped text)), undef, undef, undef, undef, undef, undef,
          Value.pointer (some { block := w.heap.size, off := 0 }), Value.int IntKind.i64 kind, Value.bool true,
          Value.pointer (some { block := w.heap.size, off := 3 }), Value.string (mk text),
          Value.string (mk (Pl.escaped text)), undef, undef, undef, undef, undef, undef, undef, undef, undef, undef, undef, undef, undef, undef, undef, undef, undef, undef, undef, undef, undef, undef, undef, undef, undef, undef, undef, undef, undef, undef, undef, undef, undef, undef, undef, undef, undef, undef, undef, undef, undef, undef, undef, undef, undef, undef, undef, undef, undef, undef, undef, undef, undef, undef, undef, undef, undef, undef, undef, undef, undef], defers := [] }) (fun _ _ => 0) (by rfl) ?_ ?_
    · go_wp2_with fail
      refine (tokEscaped_any text _ (by omega)).mono ?_
      rintro e w1 ⟨rfl, hu1⟩
      go_wp2_with fail
      go_step3
      exact ⟨rfl, hu1, rfl⟩
    · rintro a' w1 ⟨hu1, rfl⟩
      have hxb : w1.heap[w.heap.size]? = some (.cells #[.int .i64 kind, .string (mk name), .slice s1 l.length cap1, .string (mk text)] 24 (0, 0)) := (hu1.block _ (by simp; omega)).trans ((Below.heap_alloc _ _ _ (by simp)).trans (heap_new rfl))
      have HXB := Lib.hid hxb
      have HUW := Lib.hid (Up.trans (((Up.self w).alloc _).alloc _) hu1)
      have hSl : (Pl.escaped text).length ≤ 1000000000 := by omega
      have HSW := Lib.hid (show Pl.write ⟨kind, name, l, text⟩ = Pl.escaped text by unfold Pl.write; rw [if_pos K4.out])
      clear hxb hu1 hb4
      go_wp2_with fail
      refine (next_any' (Pl.escaped text) w1 (HE.out.up HUW.out) hSl).mono ?_
      rintro e w2 ⟨hp, hu2⟩
      have hxb2 := (hu2.block _ (lt_of_block HXB.out)).trans HXB.out
      have HXB2 := Lib.hid hxb2
      have HU2 := Lib.hid (Up.trans HUW.out hu2)
      have hszS := mk_size (Pl.escaped text)
      have hlx : w.heap.size < w2.heap.size := lt_of_block hxb2
      clear hxb2 hu2
      rcases hp with ⟨y, r, v2, q1, rfl, q2⟩ | ⟨e', n, q1, rfl⟩
      · have Q1 := Lib.hid q1
        have Q2 := Lib.hid q2
        have hA2 := q2
        obtain ⟨base2, row2⟩ := hA2
        obtain ⟨s2, cap2, rfl⟩ := row_slice row2
        have hyl : y.attrs.length ≤ 20 := Pl.tokP_attrs q1
        unfold tokV
        clear q1 q2 row2
        by_cases hr : r = []
        · subst hr
          have hn0 : (((Pl.escaped text).length : Int) - ([] : List UInt8).length) = ((Pl.escaped text).length : Int) := by simp
          have x0 := cell_of_block HXB2.out 0
          have x1 := cell_of_block HXB2.out 1
          have x2 := cell_of_block HXB2.out 2
          have x3 := cell_of_block HXB2.out 3
          rw [hn0]
          clear hn0
          go_wp2_with fail
          refine (same_any _ _ ⟨kind, name, l, text⟩ y _ ⟨_, rfl, A.out.up (Up.trans HU2.out ((Up.self _).alloc _))⟩ ⟨_, rfl, (Q2.out.reads).up ((Up.self _).alloc _)⟩ (by show l.length ≤ _; omega) (by omega)).mono ?_
          rintro e w3 ⟨rfl, hu3⟩
          have HU3 := Lib.hid (Up.trans (HU2.out.alloc _) hu3)
          clear hu3 x0 x1 x2 x3
          by_cases hxy : (⟨kind, name, l, text⟩ : Pl.Tok) = y
          · rw [decide_eq_true hxy]
            have hres : putTV ⟨kind, name, l, text⟩ = .tuple #[.string (mk (Pl.escaped text)), .int .i64 0] := putTV_some HSW.out (by rw [Q1.out, ← hxy])
            have HRES := Lib.hid hres
            clear hres hxy
            go_wp2_with fail
            all_goals simp only [Exit.jump]
            all_goals go_ret2
            exact ⟨by rw [HRES.out]; rfl, HU3.out⟩
          · rw [decide_eq_false hxy]
            have hres : putTV ⟨kind, name, l, text⟩ = .tuple #[.string (mk []), .int .i64 50] := putTV_none HSW.out (by rw [Q1.out]; intro h; injection h with h _; exact hxy h.symm)
            have HRES := Lib.hid hres
            clear hres hxy
            go_wp2_with fail
            all_goals simp only [Exit.jump]
            all_goals go_ret2
            exact ⟨by rw [HRES.out]; rfl, HU3.out⟩
        · have hrl : 0 < r.length := List.length_pos_iff.2 hr
          have hnb : ((((Pl.escaped text).length : Int) - r.length) != ((Pl.escaped text).length : Int)) = true := by
            have : ¬ (((Pl.escaped text).length : Int) - r.length) = ((Pl.escaped text).length : Int) := by omega
            simpa using this
          have hres : putTV ⟨kind, name, l, text⟩ = .tuple #[.string (mk []), .int .i64 50] := putTV_none HSW.out (by rw [Q1.out]; intro h; injection h with _ h; exact hr h)
          have HRES := Lib.hid hres
          obtain ⟨dl, hdl⟩ : ∃ dl : Int, dl = ((Pl.escaped text).length : Int) - r.length := ⟨_, rfl⟩
          rw [← hdl] at hnb ⊢
          clear hres hr hdl hrl
          go_wp2_with fail
          all_goals simp only [Exit.jump]
          all_goals go_ret2
          all_goals exact ⟨by rw [HRES.out]; rfl, HU2.out.alloc _⟩
      · have hne : (e' != 0) = true := by simpa using (Pl.tokP_wrong q1).1
        have hres : putTV ⟨kind, name, l, text⟩ = .tuple #[.string (mk []), .int .i64 50] := putTV_none HSW.out (by rw [q1]; intro h; cases h)
        have HRES := Lib.hid hres
        unfold tokV
        clear hres q1
        go_wp2_with fail
        all_goals simp only [Exit.jump]
        all_goals go_ret2
        exact ⟨by rw [HRES.out]; rfl, HU2.out.alloc _⟩
  · have hb4 : (kind == 4) = false := by simpa using h4
    have K4 := Lib.hid h4
    have hwl := writeA_len l hat
    clear h4
    go_enter Tryz.func10, Tryz.ntmps10
    go_wp2_with fail
    refine wp_scope_jumps 0 (fun _ _ => False) (fun _ _ => 0) (by rfl) ?_ (fun _ _ h => h.elim)
    obtain ⟨W0, hW0⟩ : ∃ W0, W0 = (w.alloc (.cells #[.int .i64 kind, .string (mk name), .slice s1 l.length cap1, .string (mk text)] 24)).alloc (.cells #[.pointer none, .slice none 0 0] 47) := ⟨_, rfl⟩
    have hu0 : Up w W0 := by rw [hW0]; exact ((Up.self w).alloc _).alloc _
    have hxb0 : W0.heap[w.heap.size]? = some (.cells #[.int .i64 kind, .string (mk name), .slice s1 l.length cap1, .string (mk text)] 24 (0, 0)) := by rw [hW0, Below.heap_alloc _ _ _ (by simp)]; exact heap_new rfl
    have hbd0 : Bld (w.heap.size + 1) (w.heap.size + 1) 47 #[] [] W0 := ⟨_, .inl rfl, Nat.le_refl _, _, by rw [hW0]; exact heap_new (by simp), World.ownsRow_nil _ _ _ _, by simp [Value.ownBlock]⟩
    have hs0 : W0.heap.size = w.heap.size + 2 := by rw [hW0]; simp
    have HU0 := Lib.hid hu0
    have HXB0 := Lib.hid hxb0
    have HBD0 := Lib.hid hbd0
    clear hu0 hxb0 hbd0
    go_wp2_with fail
    rw [← hW0]
    refine (writeString_any (w.heap.size + 1) (w.heap.size + 1) 47 2 #[] [] name W0 bk_plain rfl (by simp; omega) (by omega) HBD0.out).mono ?_
    rintro e w1 ⟨rfl, hbd1, hbel1, hoth1, hsz1⟩
    have HBD1 := Lib.hid (show Bld (w.heap.size + 1) (w.heap.size + 1) 47 #[] name w1 from ⟨_, .inr rfl, by simpa using hbd1⟩)
    have HB1 := Lib.hid hbel1
    have hxb1 : w1.heap[w.heap.size]? = _ := (hbel1.block _ (by omega)).trans HXB0.out
    have hu1 : Up w w1 := Below.trans HU0.out (hbel1.mono (by omega))
    have x2 : w1.cell? ⟨w.heap.size, 2, none⟩ = some (.slice s1 l.length cap1) := cell_of_block hxb1 2
    have HXB1 := Lib.hid hxb1
    have HU1 := Lib.hid hu1
    clear hbd1 hbel1 hoth1 hsz1 hxb1 hu1 hW0
    go_wp2_with fail
    go_loopw [7, 24] (fun _ i wr => ∃ k : Nat, k ≤ l.length ∧ i = .int .i64 (k : Int) ∧ Bld (w.heap.size + 1) (w.heap.size + 1) 47 #[] (name ++ Pl.writeA (l.take k)) wr ∧ wr.heap[w.heap.size]? = some (.cells #[.int .i64 kind, .string (mk name), .slice s1 l.length cap1, .string (mk text)] 24 (0, 0)) ∧ Up w wr ∧ w.heap.size + 1 < wr.heap.size) (fun _ i _ => l.length - (intOf i).toNat)
    case atStart => exact ⟨0, Nat.zero_le _, rfl, by simpa [Pl.writeA] using HBD1.out, HXB1.out, HU1.out, by obtain ⟨_, hc⟩ := Bld.cells HBD1.out; exact lt_of_block hc⟩
    case round =>
      obtain ⟨k, hk, rfl, hbd, hxb, hup, hsz⟩ := hrel
      have HBD := Lib.hid hbd
      have HXB := Lib.hid hxb
      have HUP := Lib.hid hup
      clear hbd hxb hup x2
      by_cases hlt : k < l.length
      · obtain ⟨a, ca, hae, hcs⟩ := A.out
        obtain ⟨g, o, ha, p1, p2⟩ := hcs k hlt
        injection hae with h1 h2 h3
        subst h1
        subst ha
        have e1 := (HUP.out.cells.1 _ _ (lt_of_cell p1)).trans p1
        have e2 := (HUP.out.cells.1 _ _ (lt_of_cell p1)).trans p2
        obtain ⟨p, hp⟩ : ∃ p, p = l.getD k ([], []) := ⟨_, rfl⟩
        rw [← hp] at e1 e2
        have hpm : p ∈ l := by rw [hp]; simp [List.getD, hlt]
        have hpl := hat p hpm
        have hpe := escaped_len p.2
        have HP := Lib.hid hp
        have htl : (Pl.writeA (l.take k)).length ≤ 70000400 := by
          have h1 := writeA_len (l.take k) (fun a ha => hat a (List.mem_of_mem_take ha))
          have h2 : (l.take k).length ≤ 100 := by simp; omega
          omega
        clear hcs p1 p2 hp hpm h2 h3
        obtain ⟨c1, hc1⟩ : ∃ c1 : List UInt8, c1 = 32 :: p.1 := ⟨_, rfl⟩
        obtain ⟨c2, hc2⟩ : ∃ c2 : List UInt8, c2 = c1 ++ [61, 34] := ⟨_, rfl⟩
        obtain ⟨c3, hc3⟩ : ∃ c3 : List UInt8, c3 = c2 ++ Pl.escaped p.2 := ⟨_, rfl⟩
        obtain ⟨c4, hc4⟩ : ∃ c4 : List UInt8, c4 = c3 ++ [34] := ⟨_, rfl⟩
        have k1 : ({ data := #[32] } : ByteArray) ++ mk p.1 = mk c1 := by rw [hc1, show ({ data := #[32] } : ByteArray) = mk [32] from rfl, mk_app]; rfl
        have k2 : mk c1 ++ ({ data := #[61, 34] } : ByteArray) = mk c2 := by rw [hc2, show ({ data := #[61, 34] } : ByteArray) = mk [61, 34] from rfl, mk_app]
        have k3 : mk c2 ++ mk (Pl.escaped p.2) = mk c3 := by rw [hc3, mk_app]
        have k4 : mk c3 ++ ({ data := #[34] } : ByteArray) = mk c4 := by rw [hc4, show ({ data := #[34] } : ByteArray) = mk [34] from rfl, mk_app]
        have hc4l : c4.length = p.1.length + (Pl.escaped p.2).length + 4 := by rw [hc4, hc3, hc2, hc1]; simp; omega
        have hc4e : Pl.writeA (l.take (k + 1)) = Pl.writeA (l.take k) ++ c4 := by
          rw [List.take_succ_eq_append_getElem hlt]
          have : l[k] = p := by rw [HP.out]; simp [List.getD, hlt]
          rw [this]
          have e : ∀ a b : List (List UInt8 × List UInt8), Pl.writeA (a ++ b) = Pl.writeA a ++ Pl.writeA b := fun a b => by simp [Pl.writeA]
          rw [e, hc4, hc3, hc2, hc1]
          simp [Pl.writeA]
        have n1 : ¬ 9223372036854775807 < 1 + (mk p.1).size := by rw [mk_size]; omega
        have n2 : ¬ 9223372036854775807 < (mk c1).size + 2 := by rw [mk_size, hc1]; simp; omega
        have n3 : ¬ 9223372036854775807 < (mk c2).size + (mk (Pl.escaped p.2)).size := by rw [mk_size, mk_size, hc2, hc1]; simp; omega
        have n4 : ¬ 9223372036854775807 < (mk c3).size + 1 := by rw [mk_size, hc3, hc2, hc1]; simp; omega
        have HC4 := Lib.hid hc4e
        have HK1 := Lib.hid k1
        clear hc1 hc2 hc3 hc4 hc4e
        go_wp2_with fail
        obtain ⟨W1, hW1⟩ : ∃ W1, W1 = wr.alloc (.cells #[.string (mk p.1), .string (mk p.2)] 43) := ⟨_, rfl⟩
        rw [← hW1]
        have hb1 : W1.heap[wr.heap.size]? = some (.cells #[.string (mk p.1), .string (mk p.2)] 43 (0, 0)) := by rw [hW1]; exact heap_new rfl
        have hu1' : Up wr W1 := by rw [hW1]; exact (Up.self wr).alloc _
        have HB1' := Lib.hid hb1
        have HU1' := Lib.hid hu1'
        have d0 := cell_of_block hb1 0
        have d1 := cell_of_block hb1 1
        clear hW1 hb1 hu1'
        go_region_with (first
          | (refine (tokEscaped_any p.2 _ (by omega)).mono ?_; rintro e w2 ⟨rfl, hu2⟩; have hb2 := (hu2.block _ (lt_of_block HB1'.out)).trans HB1'.out; have d0 := cell_of_block hb2 0; have d1 := cell_of_block hb2 1; have HU2 := Lib.hid hu2; clear hb2 hu2)
          | (have hbx := Bld.up (Bld.up HBD.out HU1'.out.drew) HU2.out; have hsx : w.heap.size + 1 ≤ _ := Nat.le_trans (Nat.le_of_lt (show w.heap.size + 1 < _ from hsz)) (Nat.le_trans HU1'.out.drew.size HU2.out.size); refine (writeString_any (w.heap.size + 1) (w.heap.size + 1) 47 2 #[] (name ++ Pl.writeA (l.take k)) c4 _ bk_plain rfl (by simp; omega) hsx hbx).mono ?_; rintro e w3 ⟨rfl, hbd3, hbel3, hoth3, hsz3⟩; have HBD3 := Lib.hid hbd3; have HBEL3 := Lib.hid hbel3; have HSZ3 := Lib.hid hsz3; clear hbd3 hbel3 hoth3 hsz3))
        all_goals
          have hxW : W1.drew.heap[w.heap.size]? = _ := (HU1'.out.drew.block _ (lt_of_block HXB.out)).trans HXB.out
          have hx2 := (HU2.out.block _ (lt_of_block hxW)).trans hxW
          have hx3 := (HBEL3.out.block _ (by omega)).trans hx2
          have hup3 : Up w w3 := Below.trans (Up.trans (Up.trans HUP.out HU1'.out.drew) HU2.out) (HBEL3.out.mono (by omega))
          have hsz3 : w.heap.size + 1 < w3.heap.size := Nat.lt_of_lt_of_le (Nat.lt_of_lt_of_le hsz (Nat.le_trans HU1'.out.drew.size HU2.out.size)) HSZ3.out
          have HX3 := Lib.hid hx3
          have HUP3 := Lib.hid hup3
          clear hxW hx2 hx3 hup3 d0 d1
          go_wp2_with fail
          go_roundw
          case rel => exact ⟨k + 1, by omega, by go_num, by rw [HC4.out, ← List.append_assoc]; exact Bld.of3 HBD3.out, HX3.out, HUP3.out, hsz3⟩
          all_goals (simp [intOf]; omega)
      · have hkl : l.length ≤ k := by omega
        have hk' : k = l.length := by omega
        subst hk'
        rw [List.take_length] at HBD
        obtain ⟨bs, hbs⟩ : ∃ bs, bs = name ++ Pl.writeA l := ⟨_, rfl⟩
        rw [← hbs] at HBD
        have hbl : bs.length ≤ 80000000 := by rw [hbs]; simp; omega
        have k5 : ({ data := #[60] } : ByteArray) ++ mk bs = mk (60 :: bs) := by rw [show ({ data := #[60] } : ByteArray) = mk [60] from rfl, mk_app]; rfl
        have n5 : ¬ 9223372036854775807 < 1 + (mk bs).size := by rw [mk_size]; omega
        have HBS := Lib.hid hbs
        clear hbs hwl hlt hkl hk hat
        go_wp2_with fail
        refine (string_any (w.heap.size + 1) (w.heap.size + 1) 47 #[] bs wr (by omega) HBD.out).mono ?_
        rintro e w2 ⟨rfl, hbel, hoth⟩
        have hxb : w2.heap[w.heap.size]? = _ := (hbel.block _ (by omega)).trans HXB.out
        have hu2 : Up w w2 := Below.trans HUP.out (hbel.mono (by omega))
        have x0 : w2.cell? ⟨w.heap.size, 0, none⟩ = some (.int .i64 kind) := cell_of_block hxb 0
        have x1 : w2.cell? ⟨w.heap.size, 1, none⟩ = some (.string (mk name)) := cell_of_block hxb 1
        clear HXB HUP HBD hbel hoth hsz HB1 HBD0 HXB0 HU0 HBD1 HXB1 HU1 hs0
        have HXB := Lib.hid hxb
        have HUW := Lib.hid hu2
        clear hxb hu2
        by_cases h2 : kind = 2
        · have hb2 : (kind == 2) = true := by simpa using h2
          obtain ⟨t1, ht1⟩ : ∃ t1 : List UInt8, t1 = [60, 47] ++ name := ⟨_, rfl⟩
          obtain ⟨S, hS⟩ : ∃ S : List UInt8, S = t1 ++ [62] := ⟨_, rfl⟩
          have k6 : ({ data := #[60, 47] } : ByteArray) ++ mk name = mk t1 := by rw [ht1, show ({ data := #[60, 47] } : ByteArray) = mk [60, 47] from rfl, mk_app]
          have k7 : mk t1 ++ ({ data := #[62] } : ByteArray) = mk S := by rw [hS, show ({ data := #[62] } : ByteArray) = mk [62] from rfl, mk_app]
          have n6 : ¬ 9223372036854775807 < 2 + (mk name).size := by rw [mk_size]; omega
          have n7 : ¬ 9223372036854775807 < (mk t1).size + 1 := by rw [mk_size, ht1]; simp; omega
          have hSl : S.length ≤ 1000000000 := by rw [hS, ht1]; simp; omega
          have HSW := Lib.hid (show Pl.write ⟨kind, name, l, text⟩ = S by unfold Pl.write; rw [if_neg K4.out, if_pos h2, hS, ht1])
          clear h2 hS ht1
          go_wp2_with fail
          go_step3
          go_wp2_with fail
          refine (next_any' S w2 (HE.out.up HUW.out) hSl).mono ?_
          rintro e w2 ⟨hp, hu2⟩
          have hxb2 := (hu2.block _ (lt_of_block HXB.out)).trans HXB.out
          have HXB2 := Lib.hid hxb2
          have HU2 := Lib.hid (Up.trans HUW.out hu2)
          have hszS := mk_size S
          have hlx : w.heap.size < w2.heap.size := lt_of_block hxb2
          clear hxb2 hu2
          rcases hp with ⟨y, r, v2, q1, rfl, q2⟩ | ⟨e', n, q1, rfl⟩
          · have Q1 := Lib.hid q1
            have Q2 := Lib.hid q2
            have hA2 := q2
            obtain ⟨base2, row2⟩ := hA2
            obtain ⟨s2, cap2, rfl⟩ := row_slice row2
            have hyl : y.attrs.length ≤ 20 := Pl.tokP_attrs q1
            unfold tokV
            clear q1 q2 row2
            by_cases hr : r = []
            · subst hr
              have hn0 : ((S.length : Int) - ([] : List UInt8).length) = (S.length : Int) := by simp
              have x0 := cell_of_block HXB2.out 0
              have x1 := cell_of_block HXB2.out 1
              have x2 := cell_of_block HXB2.out 2
              have x3 := cell_of_block HXB2.out 3
              rw [hn0]
              clear hn0
              go_wp2_with fail
              refine (same_any _ _ ⟨kind, name, l, text⟩ y _ ⟨_, rfl, A.out.up (Up.trans HU2.out ((Up.self _).alloc _))⟩ ⟨_, rfl, (Q2.out.reads).up ((Up.self _).alloc _)⟩ (by show l.length ≤ _; omega) (by omega)).mono ?_
              rintro e w3 ⟨rfl, hu3⟩
              have HU3 := Lib.hid (Up.trans (HU2.out.alloc _) hu3)
              clear hu3 x0 x1 x2 x3
              by_cases hxy : (⟨kind, name, l, text⟩ : Pl.Tok) = y
              · rw [decide_eq_true hxy]
                have hres : putTV ⟨kind, name, l, text⟩ = .tuple #[.string (mk S), .int .i64 0] := putTV_some HSW.out (by rw [Q1.out, ← hxy])
                have HRES := Lib.hid hres
                clear hres hxy
                go_wp2_with fail
                all_goals simp only [Exit.jump]
                all_goals go_ret2
                exact ⟨by rw [HRES.out]; rfl, HU3.out⟩
              · rw [decide_eq_false hxy]
                have hres : putTV ⟨kind, name, l, text⟩ = .tuple #[.string (mk []), .int .i64 50] := putTV_none HSW.out (by rw [Q1.out]; intro h; injection h with h _; exact hxy h.symm)
                have HRES := Lib.hid hres
                clear hres hxy
                go_wp2_with fail
                all_goals simp only [Exit.jump]
                all_goals go_ret2
                exact ⟨by rw [HRES.out]; rfl, HU3.out⟩
            · have hrl : 0 < r.length := List.length_pos_iff.2 hr
              have hnb : (((S.length : Int) - r.length) != (S.length : Int)) = true := by
                have : ¬ ((S.length : Int) - r.length) = (S.length : Int) := by omega
                simpa using this
              have hres : putTV ⟨kind, name, l, text⟩ = .tuple #[.string (mk []), .int .i64 50] := putTV_none HSW.out (by rw [Q1.out]; intro h; injection h with _ h; exact hr h)
              have HRES := Lib.hid hres
              obtain ⟨dl, hdl⟩ : ∃ dl : Int, dl = (S.length : Int) - r.length := ⟨_, rfl⟩
              rw [← hdl] at hnb ⊢
              clear hres hr hdl hrl
              go_wp2_with fail
              all_goals simp only [Exit.jump]
              all_goals go_ret2
              all_goals exact ⟨by rw [HRES.out]; rfl, HU2.out.alloc _⟩
          · have hne : (e' != 0) = true := by simpa using (Pl.tokP_wrong q1).1
            have hres : putTV ⟨kind, name, l, text⟩ = .tuple #[.string (mk []), .int .i64 50] := putTV_none HSW.out (by rw [q1]; intro h; cases h)
            have HRES := Lib.hid hres
            unfold tokV
            clear hres q1
            go_wp2_with fail
            all_goals simp only [Exit.jump]
            all_goals go_ret2
            exact ⟨by rw [HRES.out]; rfl, HU2.out.alloc _⟩
        · have hb2 : (kind == 2) = false := by simpa using h2
          by_cases h1 : kind = 1
          · have hb1 : (kind == 1) = true := by simpa using h1
            obtain ⟨S, hS⟩ : ∃ S : List UInt8, S = (60 :: bs) ++ [62] := ⟨_, rfl⟩
            have k7 : mk (60 :: bs) ++ ({ data := #[62] } : ByteArray) = mk S := by rw [hS, show ({ data := #[62] } : ByteArray) = mk [62] from rfl, mk_app]
            have n7 : ¬ 9223372036854775807 < (mk (60 :: bs)).size + 1 := by rw [mk_size]; simp; omega
            have hSl : S.length ≤ 1000000000 := by rw [hS]; simp; omega
            have HSW := Lib.hid (show Pl.write ⟨kind, name, l, text⟩ = S by unfold Pl.write; rw [if_neg K4.out, if_neg h2, if_pos h1, hS, HBS.out]; simp)
            clear h2 h1 hS
            go_wp2_with fail
            go_step3
            go_wp2_with fail
            refine (next_any' S w2 (HE.out.up HUW.out) hSl).mono ?_
            rintro e w2 ⟨hp, hu2⟩
            have hxb2 := (hu2.block _ (lt_of_block HXB.out)).trans HXB.out
            have HXB2 := Lib.hid hxb2
            have HU2 := Lib.hid (Up.trans HUW.out hu2)
            have hszS := mk_size S
            have hlx : w.heap.size < w2.heap.size := lt_of_block hxb2
            clear hxb2 hu2
            rcases hp with ⟨y, r, v2, q1, rfl, q2⟩ | ⟨e', n, q1, rfl⟩
            · have Q1 := Lib.hid q1
              have Q2 := Lib.hid q2
              have hA2 := q2
              obtain ⟨base2, row2⟩ := hA2
              obtain ⟨s2, cap2, rfl⟩ := row_slice row2
              have hyl : y.attrs.length ≤ 20 := Pl.tokP_attrs q1
              unfold tokV
              clear q1 q2 row2
              by_cases hr : r = []
              · subst hr
                have hn0 : ((S.length : Int) - ([] : List UInt8).length) = (S.length : Int) := by simp
                have x0 := cell_of_block HXB2.out 0
                have x1 := cell_of_block HXB2.out 1
                have x2 := cell_of_block HXB2.out 2
                have x3 := cell_of_block HXB2.out 3
                rw [hn0]
                clear hn0
                go_wp2_with fail
                refine (same_any _ _ ⟨kind, name, l, text⟩ y _ ⟨_, rfl, A.out.up (Up.trans HU2.out ((Up.self _).alloc _))⟩ ⟨_, rfl, (Q2.out.reads).up ((Up.self _).alloc _)⟩ (by show l.length ≤ _; omega) (by omega)).mono ?_
                rintro e w3 ⟨rfl, hu3⟩
                have HU3 := Lib.hid (Up.trans (HU2.out.alloc _) hu3)
                clear hu3 x0 x1 x2 x3
                by_cases hxy : (⟨kind, name, l, text⟩ : Pl.Tok) = y
                · rw [decide_eq_true hxy]
                  have hres : putTV ⟨kind, name, l, text⟩ = .tuple #[.string (mk S), .int .i64 0] := putTV_some HSW.out (by rw [Q1.out, ← hxy])
                  have HRES := Lib.hid hres
                  clear hres hxy
                  go_wp2_with fail
                  all_goals simp only [Exit.jump]
                  all_goals go_ret2
                  exact ⟨by rw [HRES.out]; rfl, HU3.out⟩
                · rw [decide_eq_false hxy]
                  have hres : putTV ⟨kind, name, l, text⟩ = .tuple #[.string (mk []), .int .i64 50] := putTV_none HSW.out (by rw [Q1.out]; intro h; injection h with h _; exact hxy h.symm)
                  have HRES := Lib.hid hres
                  clear hres hxy
                  go_wp2_with fail
                  all_goals simp only [Exit.jump]
                  all_goals go_ret2
                  exact ⟨by rw [HRES.out]; rfl, HU3.out⟩
              · have hrl : 0 < r.length := List.length_pos_iff.2 hr
                have hnb : (((S.length : Int) - r.length) != (S.length : Int)) = true := by
                  have : ¬ ((S.length : Int) - r.length) = (S.length : Int) := by omega
                  simpa using this
                have hres : putTV ⟨kind, name, l, text⟩ = .tuple #[.string (mk []), .int .i64 50] := putTV_none HSW.out (by rw [Q1.out]; intro h; injection h with _ h; exact hr h)
                have HRES := Lib.hid hres
                obtain ⟨dl, hdl⟩ : ∃ dl : Int, dl = (S.length : Int) - r.length := ⟨_, rfl⟩
                rw [← hdl] at hnb ⊢
                clear hres hr hdl hrl
                go_wp2_with fail
                all_goals simp only [Exit.jump]
                all_goals go_ret2
                all_goals exact ⟨by rw [HRES.out]; rfl, HU2.out.alloc _⟩
            · have hne : (e' != 0) = true := by simpa using (Pl.tokP_wrong q1).1
              have hres : putTV ⟨kind, name, l, text⟩ = .tuple #[.string (mk []), .int .i64 50] := putTV_none HSW.out (by rw [q1]; intro h; cases h)
              have HRES := Lib.hid hres
              unfold tokV
              clear hres q1
              go_wp2_with fail
              all_goals simp only [Exit.jump]
              all_goals go_ret2
              exact ⟨by rw [HRES.out]; rfl, HU2.out.alloc _⟩
          · have hb1 : (kind == 1) = false := by simpa using h1
            by_cases h3 : kind = 3
            · have hb3 : (kind == 3) = true := by simpa using h3
              obtain ⟨S, hS⟩ : ∃ S : List UInt8, S = (60 :: bs) ++ [47, 62] := ⟨_, rfl⟩
              have k7 : mk (60 :: bs) ++ ({ data := #[47, 62] } : ByteArray) = mk S := by rw [hS, show ({ data := #[47, 62] } : ByteArray) = mk [47, 62] from rfl, mk_app]
              have n7 : ¬ 9223372036854775807 < (mk (60 :: bs)).size + 2 := by rw [mk_size]; simp; omega
              have hSl : S.length ≤ 1000000000 := by rw [hS]; simp; omega
              have HSW := Lib.hid (show Pl.write ⟨kind, name, l, text⟩ = S by unfold Pl.write; rw [if_neg K4.out, if_neg h2, if_neg h1, if_pos h3, hS, HBS.out]; simp)
              clear h2 h1 h3 hS
              go_wp2_with fail
              go_step3
              go_wp2_with fail
              refine (next_any' S w2 (HE.out.up HUW.out) hSl).mono ?_
              rintro e w2 ⟨hp, hu2⟩
              have hxb2 := (hu2.block _ (lt_of_block HXB.out)).trans HXB.out
              have HXB2 := Lib.hid hxb2
              have HU2 := Lib.hid (Up.trans HUW.out hu2)
              have hszS := mk_size S
              have hlx : w.heap.size < w2.heap.size := lt_of_block hxb2
              clear hxb2 hu2
              rcases hp with ⟨y, r, v2, q1, rfl, q2⟩ | ⟨e', n, q1, rfl⟩
              · have Q1 := Lib.hid q1
                have Q2 := Lib.hid q2
                have hA2 := q2
                obtain ⟨base2, row2⟩ := hA2
                obtain ⟨s2, cap2, rfl⟩ := row_slice row2
                have hyl : y.attrs.length ≤ 20 := Pl.tokP_attrs q1
                unfold tokV
                clear q1 q2 row2
                by_cases hr : r = []
                · subst hr
                  have hn0 : ((S.length : Int) - ([] : List UInt8).length) = (S.length : Int) := by simp
                  have x0 := cell_of_block HXB2.out 0
                  have x1 := cell_of_block HXB2.out 1
                  have x2 := cell_of_block HXB2.out 2
                  have x3 := cell_of_block HXB2.out 3
                  rw [hn0]
                  clear hn0
                  go_wp2_with fail
                  refine (same_any _ _ ⟨kind, name, l, text⟩ y _ ⟨_, rfl, A.out.up (Up.trans HU2.out ((Up.self _).alloc _))⟩ ⟨_, rfl, (Q2.out.reads).up ((Up.self _).alloc _)⟩ (by show l.length ≤ _; omega) (by omega)).mono ?_
                  rintro e w3 ⟨rfl, hu3⟩
                  have HU3 := Lib.hid (Up.trans (HU2.out.alloc _) hu3)
                  clear hu3 x0 x1 x2 x3
                  by_cases hxy : (⟨kind, name, l, text⟩ : Pl.Tok) = y
                  · rw [decide_eq_true hxy]
                    have hres : putTV ⟨kind, name, l, text⟩ = .tuple #[.string (mk S), .int .i64 0] := putTV_some HSW.out (by rw [Q1.out, ← hxy])
                    have HRES := Lib.hid hres
                    clear hres hxy
                    go_wp2_with fail
                    all_goals simp only [Exit.jump]
                    all_goals go_ret2
                    exact ⟨by rw [HRES.out]; rfl, HU3.out⟩
                  · rw [decide_eq_false hxy]
                    have hres : putTV ⟨kind, name, l, text⟩ = .tuple #[.string (mk []), .int .i64 50] := putTV_none HSW.out (by rw [Q1.out]; intro h; injection h with h _; exact hxy h.symm)
                    have HRES := Lib.hid hres
                    clear hres hxy
                    go_wp2_with fail
                    all_goals simp only [Exit.jump]
                    all_goals go_ret2
                    exact ⟨by rw [HRES.out]; rfl, HU3.out⟩
                · have hrl : 0 < r.length := List.length_pos_iff.2 hr
                  have hnb : (((S.length : Int) - r.length) != (S.length : Int)) = true := by
                    have : ¬ ((S.length : Int) - r.length) = (S.length : Int) := by omega
                    simpa using this
                  have hres : putTV ⟨kind, name, l, text⟩ = .tuple #[.string (mk []), .int .i64 50] := putTV_none HSW.out (by rw [Q1.out]; intro h; injection h with _ h; exact hr h)
                  have HRES := Lib.hid hres
                  obtain ⟨dl, hdl⟩ : ∃ dl : Int, dl = (S.length : Int) - r.length := ⟨_, rfl⟩
                  rw [← hdl] at hnb ⊢
                  clear hres hr hdl hrl
                  go_wp2_with fail
                  all_goals simp only [Exit.jump]
                  all_goals go_ret2
                  all_goals exact ⟨by rw [HRES.out]; rfl, HU2.out.alloc _⟩
              · have hne : (e' != 0) = true := by simpa using (Pl.tokP_wrong q1).1
                have hres : putTV ⟨kind, name, l, text⟩ = .tuple #[.string (mk []), .int .i64 50] := putTV_none HSW.out (by rw [q1]; intro h; cases h)
                have HRES := Lib.hid hres
                unfold tokV
                clear hres q1
                go_wp2_with fail
                all_goals simp only [Exit.jump]
                all_goals go_ret2
                exact ⟨by rw [HRES.out]; rfl, HU2.out.alloc _⟩
            · have hb3 : (kind == 3) = false := by simpa using h3
              have hSl : ([] : List UInt8).length ≤ 1000000000 := by simp
              have HSW := Lib.hid (show Pl.write ⟨kind, name, l, text⟩ = [] by unfold Pl.write; rw [if_neg K4.out, if_neg h2, if_neg h1, if_neg h3])
              clear h2 h1 h3
              go_wp2_with fail
              go_step3
              go_wp2_with fail
              refine (next_any' ([] : List UInt8) w2 (HE.out.up HUW.out) hSl).mono ?_
              rintro e w2 ⟨hp, hu2⟩
              have hxb2 := (hu2.block _ (lt_of_block HXB.out)).trans HXB.out
              have HXB2 := Lib.hid hxb2
              have HU2 := Lib.hid (Up.trans HUW.out hu2)
              have hszS := mk_size ([] : List UInt8)
              have hlx : w.heap.size < w2.heap.size := lt_of_block hxb2
              clear hxb2 hu2
              rcases hp with ⟨y, r, v2, q1, rfl, q2⟩ | ⟨e', n, q1, rfl⟩
              · have Q1 := Lib.hid q1
                have Q2 := Lib.hid q2
                have hA2 := q2
                obtain ⟨base2, row2⟩ := hA2
                obtain ⟨s2, cap2, rfl⟩ := row_slice row2
                have hyl : y.attrs.length ≤ 20 := Pl.tokP_attrs q1
                unfold tokV
                clear q1 q2 row2
                by_cases hr : r = []
                · subst hr
                  have hn0 : ((([] : List UInt8).length : Int) - ([] : List UInt8).length) = (([] : List UInt8).length : Int) := by simp
                  have x0 := cell_of_block HXB2.out 0
                  have x1 := cell_of_block HXB2.out 1
                  have x2 := cell_of_block HXB2.out 2
                  have x3 := cell_of_block HXB2.out 3
                  rw [hn0]
                  clear hn0
                  go_wp2_with fail
                  refine (same_any _ _ ⟨kind, name, l, text⟩ y _ ⟨_, rfl, A.out.up (Up.trans HU2.out ((Up.self _).alloc _))⟩ ⟨_, rfl, (Q2.out.reads).up ((Up.self _).alloc _)⟩ (by show l.length ≤ _; omega) (by omega)).mono ?_
                  rintro e w3 ⟨rfl, hu3⟩
                  have HU3 := Lib.hid (Up.trans (HU2.out.alloc _) hu3)
                  clear hu3 x0 x1 x2 x3
                  by_cases hxy : (⟨kind, name, l, text⟩ : Pl.Tok) = y
                  · rw [decide_eq_true hxy]
                    have hres : putTV ⟨kind, name, l, text⟩ = .tuple #[.string (mk ([] : List UInt8)), .int .i64 0] := putTV_some HSW.out (by rw [Q1.out, ← hxy])
                    have HRES := Lib.hid hres
                    clear hres hxy
                    go_wp2_with fail
                    all_goals simp only [Exit.jump]
                    all_goals go_ret2
                    exact ⟨by rw [HRES.out]; rfl, HU3.out⟩
                  · rw [decide_eq_false hxy]
                    have hres : putTV ⟨kind, name, l, text⟩ = .tuple #[.string (mk []), .int .i64 50] := putTV_none HSW.out (by rw [Q1.out]; intro h; injection h with h _; exact hxy h.symm)
                    have HRES := Lib.hid hres
                    clear hres hxy
                    go_wp2_with fail
                    all_goals simp only [Exit.jump]
                    all_goals go_ret2
                    exact ⟨by rw [HRES.out]; rfl, HU3.out⟩
                · have hrl : 0 < r.length := List.length_pos_iff.2 hr
                  have hnb : (((([] : List UInt8).length : Int) - r.length) != (([] : List UInt8).length : Int)) = true := by
                    have : ¬ ((([] : List UInt8).length : Int) - r.length) = (([] : List UInt8).length : Int) := by omega
                    simpa using this
                  have hres : putTV ⟨kind, name, l, text⟩ = .tuple #[.string (mk []), .int .i64 50] := putTV_none HSW.out (by rw [Q1.out]; intro h; injection h with _ h; exact hr h)
                  have HRES := Lib.hid hres
                  obtain ⟨dl, hdl⟩ : ∃ dl : Int, dl = (([] : List UInt8).length : Int) - r.length := ⟨_, rfl⟩
                  rw [← hdl] at hnb ⊢
                  clear hres hr hdl hrl
                  go_wp2_with fail
                  all_goals simp only [Exit.jump]
                  all_goals go_ret2
                  all_goals exact ⟨by rw [HRES.out]; rfl, HU2.out.alloc _⟩
              · have hne : (e' != 0) = true := by simpa using (Pl.tokP_wrong q1).1
                have hres : putTV ⟨kind, name, l, text⟩ = .tuple #[.string (mk []), .int .i64 50] := putTV_none HSW.out (by rw [q1]; intro h; cases h)
                have HRES := Lib.hid hres
                unfold tokV
                clear hres q1
                go_wp2_with fail
                all_goals simp only [Exit.jump]
                all_goals go_ret2
                exact ⟨by rw [HRES.out]; rfl, HU2.out.alloc _⟩
end Go.Proofs.YtckfgkmfeklcmaaGreatDoor

/- Tokens: All. -/
namespace Go.Proofs.YtckfgkmfeklcmaaGreatDoor
open Go.RowKit Go.Shelf
attribute [local go_sem] Oper.semAt_some
theorem Tryz.infoTok : (Tryz.prog.info? 24).map (fun i => (i.zero, i.size, i.bytes)) = some (some (.agg #[.int .i64 0, .string ⟨#[]⟩, .slice none 0 0, .string ⟨#[]⟩]), 4, 64) := by kernel_rfl

/-- the cells of a list of tokens -/
inductive TCells (w : World) : List Pl.Tok → List Value → Prop
  | nil : TCells w [] []
  | cons {x : Pl.Tok} {l : List Pl.Tok} {v : Value} {xs : List Value} : AttrsAt w v x.attrs → TCells w l xs → TCells w (x :: l) (.int .i64 x.kind :: .string (mk x.name) :: v :: .string (mk x.text) :: xs)
theorem TCells.app {w : World} {l m : List Pl.Tok} {xs ys : List Value} (h : TCells w l xs) (k : TCells w m ys) : TCells w (l ++ m) (xs ++ ys) := by
  induction h with
  | nil => exact k
  | cons ha _ ih => exact .cons ha ih
theorem TCells.len {w : World} {l : List Pl.Tok} {xs : List Value} (h : TCells w l xs) : xs.length = l.length * 4 := by
  induction h with
  | nil => rfl
  | cons ha _ ih => simp [ih]; omega
theorem TCells.keeps {w w' : World} {l : List Pl.Tok} {xs : List Value} (h : TCells w l xs) (k : ∀ (g : Nat) c, w.heap[g]? = some (.cells c 43 (0, 0)) → w'.heap[g]? = some (.cells c 43 (0, 0))) : TCells w' l xs := by
  induction h with
  | nil => exact .nil
  | cons ha _ ih => obtain ⟨base, ha⟩ := ha; exact .cons ⟨base, row_keeps ha k⟩ ih
theorem TCells.up {w w' : World} {l : List Pl.Tok} {xs : List Value} (h : TCells w l xs) (u : Up w w') : TCells w' l xs := h.keeps fun g _ hg => (u.block g (lt_of_block hg)).trans hg
def ToksAt (M : Nat) (w : World) (v : Value) (l : List Pl.Tok) : Prop := ∃ xs, w.ownsRow M 24 4 v l.length xs ∧ TCells w l xs
theorem ToksAt.nil (M : Nat) (w : World) : ToksAt M w (.slice none 0 0) [] := ⟨[], World.ownsRow_nil _ _ _ _, .nil⟩
theorem ToksAt.up {M : Nat} {w w' : World} {v : Value} {l : List Pl.Tok} (h : ToksAt M w v l) (u : Up w w') : ToksAt M w' v l := by
  obtain ⟨xs, h1, h2⟩ := h
  exact ⟨xs, row_keeps h1 fun g _ hg => (u.block g (lt_of_block hg)).trans hg, h2.up u⟩
theorem ToksAt.slice {M : Nat} {w : World} {v : Value} {l : List Pl.Tok} (h : ToksAt M w v l) : ∃ a cap, v = .slice a l.length cap := by
  obtain ⟨xs, h1, h2⟩ := h
  exact row_slice h1
/-- what an append to a row of tokens leaves: rows of attributes -/
theorem grown_attrs {M n : Nat} {w w' : World} {v : Value} {xs : List Value} {o : Obj} (h : w.ownsRow M 24 4 v n xs) (hg : (w.alloc o).grownBy w' v.ownBlock) (g : Nat) (c : Array Value) (hc : w.heap[g]? = some (.cells c 43 (0, 0))) : w'.heap[g]? = some (.cells c 43 (0, 0)) := by
  have hlt := (Array.getElem?_eq_some_iff.1 hc).1
  rw [hg.block g (by simp; omega) (fun e => by
    rcases h.2 with ⟨hv, _⟩ | ⟨k, cap, cur, hv, _, hgg, _⟩
    · rw [hv] at e; simp [Value.ownBlock] at e
    · rw [hv] at e
      simp [Value.ownBlock] at e
      subst e
      rw [hc] at hgg; injection hgg with e; injection e with _ e _; exact absurd e (by decide)), Below.heap_alloc _ _ _ hlt]
  exact hc

def allPost (M : Nat) (s : List UInt8) (e : Ending) (w' : World) : Prop :=
  (∃ l v, Pl.all s = .ok l ∧ e = .returned (.tuple #[v, .int .i64 0, .int .i64 0]) ∧ ToksAt M w' v l) ∨
  (∃ (p : Nat) (e' : Int), Pl.all s = .error (p, e') ∧ e = .returned (.tuple #[.slice none 0 0, .int .i64 p, .int .i64 e']))
theorem all_go {s : List UInt8} {k : Nat} {x : Pl.Tok} {r : List UInt8} {done : List Pl.Tok} (hk : k ≤ s.length) (hal : Pl.all s = match Pl.all (s.drop k) with | .error (p, e) => .error (k + p, e) | .ok l => .ok (done ++ l)) (ht : Pl.tokP (s.drop k) = .ok x r) :
    r.length < (s.drop k).length ∧ s.drop (k + ((s.drop k).length - r.length)) = r ∧ Pl.all s = match Pl.all (s.drop (k + ((s.drop k).length - r.length))) with | .error (p, e) => .error (k + ((s.drop k).length - r.length) + p, e) | .ok l => .ok ((done ++ [x]) ++ l) := by
  have h1 := Pl.tokP_lt ht
  have h2 : s.drop (k + ((s.drop k).length - r.length)) = r := by
    have := Pl.suf_drop (Pl.tokP_suf ht).1
    rw [List.drop_drop] at this
    exact this.symm
  refine ⟨h1, h2, ?_⟩
  rw [h2, hal, Pl.all_ok ht]
  cases Pl.all r with
  | error q => obtain ⟨p, e⟩ := q; simp; omega
  | ok l => simp

set_option maxRecDepth 100000 in
set_option maxHeartbeats 6400000 in
theorem all_any' (s : List UInt8) (w : World) (h : Env w) (hs : s.length ≤ 200000000) :
    Calls Tryz.prog 16 #[.string (mk s)] w fun e w' => allPost w.heap.size s e w' ∧ Up w w' := by
  obtain ⟨i0, hi, hz0, hz1, hz2⟩ := info_parts Tryz.infoTok
  have hsz := mk_size s
  have H := Lib.hid h
  clear h
  go_enter Tryz.func16, Tryz.ntmps16
  go_wp2_with fail
  go_loopw [5, 6, 7, 8, 9, 10] (fun v p _ _ _ _ wr => ∃ (k : Nat) (done : List Pl.Tok), k ≤ s.length ∧ done.length ≤ k ∧ p = .int .i64 (k : Int) ∧ ToksAt w.heap.size wr v done ∧ Up w wr ∧
    Pl.all s = match Pl.all (s.drop k) with | .error (p, e) => .error (k + p, e) | .ok l => .ok (done ++ l)) (fun _ p _ _ _ _ _ => s.length - (intOf p).toNat)
  case atStart =>
    refine ⟨0, [], Nat.zero_le _, Nat.le_refl _, rfl, ToksAt.nil _ _, Up.self _, ?_⟩
    rw [List.drop_zero]
    cases Pl.all s with
    | error q => obtain ⟨p, e⟩ := q; simp
    | ok l => rfl
  case round =>
    obtain ⟨k, done, hk, hdk, rfl, hT, hU, hal⟩ := hrel
    obtain ⟨sa, sc, rfl⟩ := hT.slice
    have HT := Lib.hid hT
    have HU := Lib.hid hU
    have HA := Lib.hid hal
    clear hT hU hal
    by_cases hlt : k < s.length
    · obtain ⟨rest, hrest⟩ : ∃ rest, rest = s.drop k := ⟨_, rfl⟩
      have hex : (mk s).extract k s.length = mk rest := by rw [mk_cut, List.take_length, hrest]
      have hrl : rest.length = s.length - k := by rw [hrest, List.length_drop]
      have HR := Lib.hid hrest
      clear hrest
      go_wp2_with fail
      refine (next_any' rest wr (H.out.up HU.out) (by omega)).mono ?_
      rintro e w2 ⟨hp, hu2⟩
      have HU2 := Lib.hid (Up.trans HU.out hu2)
      have HT2 := Lib.hid (HT.out.up hu2)
      clear hu2 hex HT
      rcases hp with ⟨x, r, v2, q1, rfl, q2⟩ | ⟨e', n, q1, rfl⟩
      · obtain ⟨base2, row2⟩ := id q2
        obtain ⟨s2, cap2, rfl⟩ := row_slice row2
        have q1' := q1
        rw [HR.out] at q1'
        obtain ⟨g1, g2, g3⟩ := all_go hk HA.out q1'
        rw [← HR.out] at g1 g2 g3
        obtain ⟨m, hm⟩ : ∃ m, m = rest.length - r.length := ⟨_, rfl⟩
        rw [← hm] at g2 g3
        have hmi : ((rest.length : Int) - r.length) = (m : Int) := by omega
        rw [hmi]
        have G3 := Lib.hid g3
        have Q2 := Lib.hid q2
        have hm1 : 0 < m := by omega
        have hkm : k + m ≤ s.length := by omega
        unfold tokV
        clear q1 q1' q2 row2 g1 g2 g3 hm hmi
        obtain ⟨W2, hW2⟩ : ∃ W2, W2 = w2.alloc (.cells #[.int .i64 x.kind, .string (mk x.name), .slice s2 x.attrs.length cap2, .string (mk x.text)] 24) := ⟨_, rfl⟩
        have huW : Up w2 W2 := by rw [hW2]; exact (Up.self _).alloc _
        have hsW : W2.heap.size = w2.heap.size + 1 := by rw [hW2]; simp
        obtain ⟨xs, row, tc⟩ := HT2.out.up huW
        have ROW := Lib.hid row
        have TC := Lib.hid tc
        have HUW := Lib.hid (Up.trans HU2.out huW)
        have QW := Lib.hid (AttrsAt.up Q2.out huW)
        have hMW : w.heap.size ≤ W2.heap.size := HUW.out.size
        have HWW := Lib.hid hW2
        clear row tc huW hW2
        go_wp2_with (at_builtin; rw [← HWW.out, ← hsW]; go_must (refine wpList_append_own _ rfl _ _ 36 rfl w.heap.size 24 i0 (.agg #[.int .i64 0, .string ⟨#[]⟩, .slice none 0 0, .string ⟨#[]⟩]) 4 64 Tryz.underlying36 hi hz0 hz1 hz2 rfl (by decide) _ _ _ rfl (ROW.out.alloc _) ⟨W2.heap.size, 0, none⟩ 1 1 [.int .i64 x.kind, .string (mk x.name), .slice s2 x.attrs.length cap2, .string (mk x.text)] rfl rfl ?news (by simp [Value.oneCell']) ?h63 ?hby ?hbase ?_))
        case news =>
          intro j u hj
          have hh := heap_new (w := W2) (o := .cells #[.int .i64 x.kind, .string (mk x.name), .slice s2 x.attrs.length cap2, .string (mk x.text)] 24) rfl
          match j, hj with
          | 0, hj =>
            have e : u = .int .i64 x.kind := by simpa using hj.symm
            rw [e]; exact cell_of_block hh 0
          | 1, hj =>
            have e : u = .string (mk x.name) := by simpa using hj.symm
            rw [e]; exact cell_of_block hh 1
          | 2, hj =>
            have e : u = .slice s2 x.attrs.length cap2 := by simpa using hj.symm
            rw [e]; exact cell_of_block hh 2
          | 3, hj =>
            have e : u = .string (mk x.text) := by simpa using hj.symm
            rw [e]; exact cell_of_block hh 3
          | j + 4, hj => simp at hj
        case h63 => unfold maxLen; omega
        case hby => omega
        case hbase => simp; omega
        intro v7 w7 hown hg _
        have hT7 : ToksAt w.heap.size w7 v7 (done ++ [x]) := ⟨_, by simpa using hown, (TC.out.app (.cons QW.out .nil)).keeps (grown_attrs ROW.out hg)⟩
        have hU7 : Up w w7 := Up.appended HUW.out _ ROW.out hg
        obtain ⟨g8, cap8, rfl⟩ := row_slice hown
        have HT7 := Lib.hid hT7
        have HU7 := Lib.hid hU7
        clear hT7 hU7 hown hg ROW TC HUW QW HWW HT2 HU2 Q2
        go_wp2_with fail
        go_roundw
        case rel => exact ⟨k + m, done ++ [x], hkm, by simp; omega, by go_num, HT7.out, HU7.out, G3.out⟩
        case measure => simp [intOf]; omega
      · have hne : (e' != 0) = true := by simpa using (Pl.tokP_wrong q1).1
        have hnl := (Pl.tokP_wrong q1).2
        have hres : Pl.all s = .error (k + (rest.length - n), e') := by
          rw [HA.out, ← HR.out, Pl.all_bad (by intro e; rw [e] at hrl; simp at hrl; omega) q1]
        have hpi : ((rest.length : Int) - n) = ((rest.length - n : Nat) : Int) := by omega
        rw [hpi]
        obtain ⟨q, hq⟩ : ∃ q, q = rest.length - n := ⟨_, rfl⟩
        rw [← hq] at hres ⊢
        have hkq : k + q ≤ s.length := by omega
        have HRES := Lib.hid hres
        unfold tokV
        clear hres q1 hpi hq hnl
        go_wp2_with fail
        go_ret3
        exact ⟨.inr ⟨k + q, e', HRES.out, by simp <;> rfl⟩, HU2.out.alloc _⟩
    · have hk' : k = s.length := by omega
      subst hk'
      have hres : Pl.all s = .ok done := by
        rw [HA.out, List.drop_length, Pl.all_nil]; simp
      have HRES := Lib.hid hres
      clear hres hlt
      go_wp2_with fail
      go_ret3
      exact ⟨.inl ⟨done, _, HRES.out, rfl, HT.out⟩, HU.out⟩
end Go.Proofs.YtckfgkmfeklcmaaGreatDoor

/- Tokens: the law's cut, shown. -/
namespace Go.Proofs.YtckfgkmfeklcmaaGreatDoor
open Go.RowKit Go.Shelf
attribute [local go_sem] Oper.semAt_some

theorem mk_min (l : List UInt8) (n : Nat) : (mk l).extract 0 (min l.length n) = mk (l.take n) := by
  rw [mk_cut, List.drop_zero]
  congr 1
  by_cases h : l.length ≤ n
  · rw [Nat.min_eq_left h, List.take_length, List.take_of_length_le h]
  · rw [Nat.min_eq_right (by omega)]
set_option maxRecDepth 100000 in
set_option maxHeartbeats 800000 in
theorem lcut_any (l : List UInt8) (w : World) : Calls Tryz.prog 15 #[.string (mk l)] w fun e w' => e = .returned (.string (mk (l.take 500))) ∧ Up w w' := by
  have hsz := mk_size l
  have hex := mk_min l 500
  have hmi : min (l.length : Int) 500 = ((min l.length 500 : Nat) : Int) := by omega
  have hml : min l.length 500 ≤ l.length := by omega
  go_enter Tryz.func15, Tryz.ntmps15
  go_wp2_with fail
  go_ret
  exact ⟨rfl, Up.self _⟩
theorem next_lit (a : ByteArray) (s : List UInt8) (w : World) (h : Env w) (ha : a.data.toList = s) (hs : s.length ≤ 1000000000) :
    Calls Tryz.prog 14 #[.string a] w fun e w' => nextPost s e w' ∧ Up w w' := by
  have := next_any' s w h hs
  rw [← ha, mk_of] at this
  rw [← ha]
  exact this
def sh1 : List UInt8 := [60, 97, 32, 98, 61, 39, 120, 38, 108, 116, 59, 39, 32, 62, 99]
def sh2 : List UInt8 := [60, 97, 32, 98, 61, 34, 49, 34, 32, 98, 61, 34, 50, 34, 62]
def shx : Pl.Tok := ⟨1, [97], [([98], [120, 60])], []⟩
def sh3 : List UInt8 := [60, 97, 32, 98, 61, 34, 120, 38, 108, 116, 59, 34, 62]
theorem sh1_is : Pl.tokP sh1 = .ok shx [99] := by decide +kernel
theorem sh2_is : Pl.tokP sh2 = .bad 51 6 := by decide +kernel
theorem sh3_is : Pl.putT shx = some sh3 := by decide +kernel
theorem nextPost.ok {s : List UInt8} {e : Ending} {w' : World} {x : Pl.Tok} {r : List UInt8} (h : nextPost s e w') (ht : Pl.tokP s = .ok x r) :
    ∃ v, e = .returned (.tuple #[tokV x v, .int .i64 ((s.length : Int) - r.length), .int .i64 0, .int .i64 0]) ∧ AttrsAt w' v x.attrs := by
  rcases h with ⟨x', r', v, q1, q2, q3⟩ | ⟨e', n, q1, q2⟩
  · rw [ht] at q1; injection q1 with h1 h2; subst h1; subst h2; exact ⟨v, q2, q3⟩
  · rw [ht] at q1; cases q1
theorem nextPost.bad {s : List UInt8} {e : Ending} {w' : World} {e' : Int} {n : Nat} (h : nextPost s e w') (ht : Pl.tokP s = .bad e' n) :
    e = .returned (.tuple #[tokV Pl.tok0 (.slice none 0 0), .int .i64 0, .int .i64 ((s.length : Int) - n), .int .i64 e']) := by
  rcases h with ⟨x', r', v, q1, q2, q3⟩ | ⟨e'', n', q1, q2⟩
  · rw [ht] at q1; cases q1
  · rw [ht] at q1; injection q1 with h1 h2; subst h1; subst h2; exact q2
theorem shx_small : SmallT shx := ⟨by decide, by decide, by decide, by decide⟩
set_option maxRecDepth 100000 in
set_option maxHeartbeats 3200000 in
theorem shown_any (w : World) (h : Env w) : Calls Tryz.prog 8 #[] w fun e w' => e = .returned (.bool true) ∧ Up w w' := by
  have H := Lib.hid h
  clear h
  go_enter Tryz.func8, Tryz.ntmps8
  go_wp2_with fail
  refine (next_lit _ sh1 w H.out rfl (by decide)).mono ?_
  rintro e w1 ⟨hp, hu1⟩
  obtain ⟨v1, rfl, ha1⟩ := hp.ok sh1_is
  obtain ⟨b1, row1⟩ := id ha1
  obtain ⟨s1, cap1, rfl⟩ := row_slice row1
  have HA1 := Lib.hid ha1
  have HU1 := Lib.hid hu1
  clear hp hu1 ha1 row1
  unfold tokV
  rw [show ((sh1.length : Int) - ([99] : List UInt8).length) = 14 from rfl]
  go_wp2_with fail
  obtain ⟨W1, hW1⟩ : ∃ W1, W1 = w1.alloc (.cells #[.int .i64 shx.kind, .string (mk shx.name), .slice s1 shx.attrs.length cap1, .string (mk shx.text)] 24) := ⟨_, rfl⟩
  rw [← hW1]
  have hx1 : W1.heap[w1.heap.size]? = some (.cells #[.int .i64 shx.kind, .string (mk shx.name), .slice s1 shx.attrs.length cap1, .string (mk shx.text)] 24 (0, 0)) := by rw [hW1]; exact heap_new rfl
  have hu1 : Up w1 W1 := by rw [hW1]; exact (Up.self _).alloc _
  have HX1 := Lib.hid hx1
  have HU1' := Lib.hid (Up.trans HU1.out hu1)
  have HA1' := Lib.hid (HA1.out.up hu1)
  clear hW1 hx1 hu1 HA1 HU1
  refine (next_lit _ sh2 W1 (H.out.up HU1'.out) rfl (by decide)).mono ?_
  rintro e w2 ⟨hp, hu2⟩
  obtain rfl := hp.bad sh2_is
  have HX2 := Lib.hid ((hu2.block _ (lt_of_block HX1.out)).trans HX1.out)
  have HU2 := Lib.hid (Up.trans HU1'.out hu2)
  have HA2 := Lib.hid (HA1'.out.up hu2)
  clear hp hu2 HX1 HU1' HA1'
  unfold tokV
  rw [show ((sh2.length : Int) - (6 : Nat)) = 9 from rfl]
  obtain ⟨W2, hW2⟩ : ∃ W2, W2 = w2.alloc (.cells #[.int .i64 Pl.tok0.kind, .string (mk Pl.tok0.name), .slice none 0 0, .string (mk Pl.tok0.text)] 24) := ⟨_, rfl⟩
  have hu2 : Up w2 W2 := by rw [hW2]; exact (Up.self _).alloc _
  have hx2 := (hu2.block _ (lt_of_block HX2.out)).trans HX2.out
  have y0 := cell_of_block hx2 0
  have y1 := cell_of_block hx2 1
  have y2 := cell_of_block hx2 2
  have y3 := cell_of_block hx2 3
  rw [hW2] at y0 y1 y2 y3
  have HX2' := Lib.hid hx2
  have HU2' := Lib.hid (Up.trans HU2.out hu2)
  have HA2' := Lib.hid (HA2.out.up hu2)
  have HW2 := Lib.hid hW2
  clear hW2 hx2 hu2 HA2 HU2 HX2
  go_wp2_with fail
  rw [← HW2.out]
  refine (putT_any _ shx W2 (H.out.up HU2'.out) ⟨_, rfl, HA2'.out.reads⟩ shx_small).mono ?_
  rintro e w3 ⟨rfl, hu3⟩
  rw [show putTV shx = .tuple #[.string (mk sh3), .int .i64 0] from by unfold putTV; rw [sh3_is]]
  have hx3 := (hu3.block _ (lt_of_block HX2'.out)).trans HX2'.out
  have ha3 := HA2'.out.up hu3
  obtain ⟨b3, row3⟩ := ha3
  rcases row3.2 with ⟨_, h0⟩ | ⟨g, cap', cur, hv, _, hg, _⟩
  · exact absurd h0 (by decide)
  injection hv with h1 h2 h3
  subst h1
  have p1 := row3.cells (g := g) rfl 0 (.string (mk [98])) rfl
  have p2 := row3.cells (g := g) rfl 1 (.string (mk [120, 60])) rfl
  have x0 := cell_of_block hx3 0
  have x1 := cell_of_block hx3 1
  have x2 := cell_of_block hx3 2
  have HU3 := Lib.hid (Up.trans HU2'.out hu3)
  have p1' : w3.cell? ⟨g, 0, none⟩ = some (.string (mk [98])) := p1
  have p2' : w3.cell? ⟨g, 1, none⟩ = some (.string (mk [120, 60])) := p2
  clear p1 p2
  have hel := attr_eql
  have hgd := Tryz.guardAttr
  have hal : shx.attrs.length = 1 := rfl
  have f1 : (shx.kind == 1) = true := rfl
  have f2 : ((mk shx.name).toList == [97]) = true := by rw [mk_toList]; rfl
  have f3 : ((mk [98]).toList == [98]) = true := by rw [mk_toList]; rfl
  have f4 : ((mk [120, 60]).toList == [120, 60]) = true := by rw [mk_toList]; rfl
  have f5 : ((mk sh3).toList == [60, 97, 32, 98, 61, 34, 120, 38, 108, 116, 59, 34, 62]) = true := by rw [mk_toList]; rfl
  clear hx3 hu3 row3 hg h2 h3 HA2' HX2' y0 y1 y2 y3 HW2
  go_wp2_with fail
  go_ret
  exact ⟨rfl, HU3.out⟩
end Go.Proofs.YtckfgkmfeklcmaaGreatDoor

/- Tokens: the document's sameness. -/
namespace Go.Proofs.YtckfgkmfeklcmaaGreatDoor
open Go.RowKit Go.Shelf
attribute [local go_sem] Oper.semAt_some

set_option maxRecDepth 100000 in
set_option maxHeartbeats 1600000 in
theorem refAttrs_any (v1 v2 : Value) (l1 l2 : List (List UInt8 × List UInt8)) (w : World) (h1 : AttrsIn w v1 l1) (h2 : AttrsIn w v2 l2) (hl : l1.length ≤ 1000000000) (hl2 : l2.length ≤ 1000000000) :
    Calls Tryz.prog 24 #[v1, v2] w fun e w' => e = .returned (.bool (decide (l1 = l2))) ∧ Up w w' := by
  obtain ⟨a1, cap1, rfl, c1⟩ := h1
  obtain ⟨a2, cap2, rfl, c2⟩ := h2
  by_cases hlen : l1.length = l2.length
  · have hb : ((l1.length : Int) != (l2.length : Int)) = false := by simp [hlen]
    have C1 := Lib.hid c1
    have C2 := Lib.hid c2
    have HL := Lib.hid hlen
    rw [← hlen] at hb ⊢
    clear c1 c2 hlen
    go_enter Tryz.func24, Tryz.ntmps24
    go_wp2
    go_loopw [5] (fun i wr => ∃ k : Nat, k ≤ l1.length ∧ i = .int .i64 (k : Int) ∧ Up w wr ∧ ∀ j, j < k → l1.getD j ([], []) = l2.getD j ([], [])) (fun i _ => l1.length - (intOf i).toNat)
    case atStart => exact ⟨0, Nat.zero_le _, rfl, Up.self w, fun j h => absurd h (Nat.not_lt_zero _)⟩
    case round =>
      obtain ⟨k, hk, rfl, hup, hno⟩ := hrel
      have HNO := Lib.hid hno
      have HUP := Lib.hid hup
      clear hno hup
      by_cases hlt : k < l1.length
      · obtain ⟨g1, o1, rfl, p1, p2⟩ := C1.out k hlt
        obtain ⟨g2, o2, rfl, q1, q2⟩ := C2.out k (by have := HL.out; omega)
        have e1 := (HUP.out.cells.1 _ _ (lt_of_cell p1)).trans p1
        have e2 := (HUP.out.cells.1 _ _ (lt_of_cell p1)).trans p2
        have e3 := (HUP.out.cells.1 _ _ (lt_of_cell q1)).trans q1
        have e4 := (HUP.out.cells.1 _ _ (lt_of_cell q1)).trans q2
        clear p1 p2 q1 q2
        have hne := attr_neq
        have hgd := Tryz.guardAttr
        obtain ⟨p, hp⟩ : ∃ p, p = l1.getD k ([], []) := ⟨_, rfl⟩
        obtain ⟨q, hq⟩ : ∃ q, q = l2.getD k ([], []) := ⟨_, rfl⟩
        rw [← hp] at e1 e2
        rw [← hq] at e3 e4
        have HP := Lib.hid hp
        have HQ := Lib.hid hq
        clear hp hq
        go_wp2_with fail
        go_quiet (fail)
        by_cases hpq : p = q
        · have hor : (!((mk p.1).toList == (mk q.1).toList) || !((mk p.2).toList == (mk q.2).toList)) = false := by subst hpq; simp
          rw [hor]
          have HPQ := Lib.hid hpq
          clear hpq hor
          go_wp2_with fail
          go_roundw
          case rel =>
            refine ⟨k + 1, by omega, by go_num, below_drewN HUP.out _, fun j hj => ?_⟩
            by_cases e : j = k
            · subst e; rw [← HP.out, ← HQ.out]; exact HPQ.out
            · exact HNO.out j (by omega)
          case measure => simp [intOf]; omega
        · have hor : (!((mk p.1).toList == (mk q.1).toList) || !((mk p.2).toList == (mk q.2).toList)) = true := by
            rw [mk_toList, mk_toList, mk_toList, mk_toList]
            by_cases h1 : p.1 = q.1
            · have : ¬ p.2 = q.2 := fun e => hpq (Prod.ext h1 e)
              simp [this]
            · simp [h1]
          rw [hor]
          have hne' : decide (l1 = l2) = false := by
            rw [decide_eq_false_iff_not]
            intro e
            exact hpq (by rw [HP.out, HQ.out, e])
          have HNE := Lib.hid hne'
          clear hpq hor hne'
          go_wp2_with fail
          go_ret
          exact ⟨by rw [HNE.out]; rfl, below_drewN HUP.out _⟩
      · go_wp2
        go_ret
        have hk1 : k = l1.length := by omega
        have he : l1 = l2 := by
          apply List.ext_getElem HL.out
          intro j h1 h2
          have := HNO.out j (by omega)
          simpa [List.getD, h1, h2] using this
        exact ⟨by rw [decide_eq_true he]; rfl, HUP.out⟩
  · have hb : ((l1.length : Int) != (l2.length : Int)) = true := by
      have : ¬ (l1.length : Int) = (l2.length : Int) := by omega
      simpa using this
    have hne : decide (l1 = l2) = false := by
      rw [decide_eq_false_iff_not]
      intro e
      exact hlen (by rw [e])
    have HNE := Lib.hid hne
    clear c1 c2 hlen hne
    go_enter Tryz.func24, Tryz.ntmps24
    go_wp2
    go_ret
    exact ⟨by rw [HNE.out]; rfl, Up.self w⟩

set_option maxRecDepth 100000 in
set_option maxHeartbeats 3200000 in
theorem refSame_any (u1 u2 : Value) (x y : Pl.Tok) (w : World) (h1 : TokIn w u1 x) (h2 : TokIn w u2 y) (hl : x.attrs.length ≤ 1000000000) (hl2 : y.attrs.length ≤ 1000000000) :
    Calls Tryz.prog 13 #[u1, u2] w fun e w' => e = .returned (.bool (decide (x = y))) ∧ Up w w' := by
  obtain ⟨v1, rfl, a1⟩ := h1
  obtain ⟨v2, rfl, a2⟩ := h2
  obtain ⟨k1, n1, l1, t1⟩ := x
  obtain ⟨k2, n2, l2, t2⟩ := y
  unfold tokV
  simp only at *
  have hA1 := a1
  have hA2 := a2
  obtain ⟨s1, cap1, rfl, _⟩ := hA1
  obtain ⟨s2, cap2, rfl, _⟩ := hA2
  have A1 := Lib.hid a1
  have A2 := Lib.hid a2
  have hd : decide ((⟨k1, n1, l1, t1⟩ : Pl.Tok) = ⟨k2, n2, l2, t2⟩) = (decide (k1 = k2) && (decide (n1 = n2) && (decide (l1 = l2) && decide (t1 = t2)))) := by
    rw [Bool.eq_iff_iff]; simp
  have HD := Lib.hid hd
  clear a1 a2 hd
  by_cases hk : k1 = k2
  · have hkb : (k1 == k2) = true := by simpa using hk
    have HK := Lib.hid hk
    by_cases hn : n1 = n2
    · have hnb : ((mk n1).toList == (mk n2).toList) = true := by rw [mk_toList, mk_toList]; simpa using hn
      have HN := Lib.hid hn
      clear hk hn
      go_enter Tryz.func13, Tryz.ntmps13
      go_wp2_with fail
      refine (refAttrs_any _ _ l1 l2 _ (A1.out.up (((Up.self w).alloc _).alloc _)) (A2.out.up (((Up.self w).alloc _).alloc _)) hl hl2).mono ?_
      rintro e w1 ⟨rfl, hu1⟩
      have b1 : w1.heap[w.heap.size]? = some (.cells #[.int .i64 k1, .string (mk n1), .slice s1 l1.length cap1, .string (mk t1)] 24 (0, 0)) := (hu1.block _ (by simp; omega)).trans ((Below.heap_alloc _ _ _ (by simp)).trans (heap_new rfl))
      have b2 : w1.heap[w.heap.size + 1]? = some (.cells #[.int .i64 k2, .string (mk n2), .slice s2 l2.length cap2, .string (mk t2)] 24 (0, 0)) := (hu1.block _ (by simp)).trans (heap_new (by simp))
      have d1 := cell_of_block b1 3
      have d2 := cell_of_block b2 3
      have HU := Lib.hid ((((Up.self w).alloc _).alloc _).trans hu1)
      clear b1 b2 hu1
      by_cases hl12 : l1 = l2
      · have HL := Lib.hid hl12
        rw [decide_eq_true hl12]
        clear hl12
        by_cases ht : t1 = t2
        · have htb : ((mk t1).toList == (mk t2).toList) = true := by rw [mk_toList, mk_toList]; simpa using ht
          have HT := Lib.hid ht
          clear ht
          go_wp2_with fail
          go_ret
          exact ⟨by rw [HD.out, decide_eq_true HK.out, decide_eq_true HN.out, decide_eq_true HL.out, decide_eq_true HT.out]; rfl, HU.out⟩
        · have htb : ((mk t1).toList == (mk t2).toList) = false := by rw [mk_toList, mk_toList]; simpa using ht
          have HT := Lib.hid ht
          clear ht
          go_wp2_with fail
          go_ret
          exact ⟨by rw [HD.out, decide_eq_true HK.out, decide_eq_true HN.out, decide_eq_true HL.out, decide_eq_false HT.out]; rfl, HU.out⟩
      · have HL := Lib.hid hl12
        rw [decide_eq_false hl12]
        clear hl12
        go_wp2_with fail
        go_ret
        exact ⟨by rw [HD.out, decide_eq_true HK.out, decide_eq_true HN.out, decide_eq_false HL.out]; rfl, HU.out⟩
    · have hnb : ((mk n1).toList == (mk n2).toList) = false := by rw [mk_toList, mk_toList]; simpa using hn
      have HN := Lib.hid hn
      clear hk hn
      go_enter Tryz.func13, Tryz.ntmps13
      go_wp2_with fail
      go_ret
      exact ⟨by rw [HD.out, decide_eq_true HK.out, decide_eq_false HN.out]; rfl, ((Up.self w).alloc _).alloc _⟩
  · have hkb : (k1 == k2) = false := by simpa using hk
    have HK := Lib.hid hk
    clear hk
    go_enter Tryz.func13, Tryz.ntmps13
    go_wp2_with fail
    go_ret
    exact ⟨by rw [HD.out, decide_eq_false HK.out]; rfl, ((Up.self w).alloc _).alloc _⟩

/-- a list of tokens, read -/
def ToksIn (w : World) (v : Value) (l : List Pl.Tok) : Prop := ∃ a cap, v = .slice a l.length cap ∧ ∀ k, k < l.length → ∃ g o sv, a = some ⟨g, o, none⟩ ∧ w.cell? ⟨g, o + k * 4, none⟩ = some (.int .i64 (l.getD k Pl.tok0).kind) ∧
  w.cell? ⟨g, o + k * 4 + 1, none⟩ = some (.string (mk (l.getD k Pl.tok0).name)) ∧ w.cell? ⟨g, o + k * 4 + 2, none⟩ = some sv ∧ w.cell? ⟨g, o + k * 4 + 3, none⟩ = some (.string (mk (l.getD k Pl.tok0).text)) ∧ AttrsIn w sv (l.getD k Pl.tok0).attrs
theorem ToksIn.up {w w' : World} {v : Value} {l : List Pl.Tok} (h : ToksIn w v l) (u : Up w w') : ToksIn w' v l := by
  obtain ⟨a, cap, h1, h2⟩ := h
  refine ⟨a, cap, h1, fun k hk => ?_⟩
  obtain ⟨g, o, sv, e1, e2, e3, e4, e5, e6⟩ := h2 k hk
  have hlt := lt_of_cell e2
  exact ⟨g, o, sv, e1, (u.cells.1 _ _ hlt).trans e2, (u.cells.1 _ _ hlt).trans e3, (u.cells.1 _ _ hlt).trans e4, (u.cells.1 _ _ hlt).trans e5, e6.up u⟩
theorem TCells.at {w : World} {l : List Pl.Tok} {xs : List Value} (h : TCells w l xs) : ∀ k, k < l.length → ∃ sv, xs[k * 4]? = some (.int .i64 (l.getD k Pl.tok0).kind) ∧ xs[k * 4 + 1]? = some (.string (mk (l.getD k Pl.tok0).name)) ∧ xs[k * 4 + 2]? = some sv ∧ xs[k * 4 + 3]? = some (.string (mk (l.getD k Pl.tok0).text)) ∧ AttrsAt w sv (l.getD k Pl.tok0).attrs := by
  induction h with
  | nil => intro k hk; simp at hk
  | @cons x l v xs ha _ ih =>
    intro k hk
    cases k with
    | zero => exact ⟨v, rfl, rfl, rfl, rfl, ha⟩
    | succ k =>
      obtain ⟨sv, h1, h2, h3, h4, h5⟩ := ih k (by simpa using hk)
      refine ⟨sv, ?_, ?_, ?_, ?_, by simpa using h5⟩
      · rw [show (k + 1) * 4 = k * 4 + 4 from by omega]; simpa using h1
      · rw [show (k + 1) * 4 + 1 = k * 4 + 1 + 4 from by omega]; simpa using h2
      · rw [show (k + 1) * 4 + 2 = k * 4 + 2 + 4 from by omega]; simpa using h3
      · rw [show (k + 1) * 4 + 3 = k * 4 + 3 + 4 from by omega]; simpa using h4
theorem ToksAt.reads {M : Nat} {w : World} {v : Value} {l : List Pl.Tok} (h : ToksAt M w v l) : ToksIn w v l := by
  obtain ⟨xs, h, hc⟩ := h
  obtain ⟨a, cap, rfl⟩ := row_slice h
  refine ⟨a, cap, rfl, fun k hk => ?_⟩
  rcases h.2 with ⟨hv, h0⟩ | ⟨g, cap', cur, hv, _, hg, _⟩
  · omega
  · injection hv with ha _ _
    subst ha
    obtain ⟨sv, v1, v2, v3, v4, v5⟩ := hc.at k hk
    have c1 := h.cells (g := g) rfl (k * 4) _ v1
    have c2 := h.cells (g := g) rfl (k * 4 + 1) _ v2
    have c3 := h.cells (g := g) rfl (k * 4 + 2) _ v3
    have c4 := h.cells (g := g) rfl (k * 4 + 3) _ v4
    refine ⟨g, 0, sv, rfl, ?_, ?_, ?_, ?_, v5.reads⟩
    · rw [← c1]; congr 1; unfold Addr.add; split <;> simp_all
    · rw [← c2]; congr 1
    · rw [← c3]; congr 1
    · rw [← c4]; congr 1

set_option maxRecDepth 100000 in
set_option maxHeartbeats 3200000 in
theorem refList_any (v1 v2 : Value) (l1 l2 : List Pl.Tok) (w : World) (h1 : ToksIn w v1 l1) (h2 : ToksIn w v2 l2) (hl : l1.length ≤ 1000000000) (hl2 : l2.length ≤ 1000000000) (hs : ∀ x ∈ l1, x.attrs.length ≤ 1000000000) (hs2 : ∀ x ∈ l2, x.attrs.length ≤ 1000000000) :
    Calls Tryz.prog 17 #[v1, v2] w fun e w' => e = .returned (.bool (decide (l1 = l2))) ∧ Up w w' := by
  have hnot : ∀ (x : Bool) (w : World), (Op.unary .not (.bool x)).run Tryz.prog w = .ok (.bool (!x)) w := fun _ _ => rfl
  obtain ⟨a1, cap1, rfl, c1⟩ := h1
  obtain ⟨a2, cap2, rfl, c2⟩ := h2
  by_cases hlen : l1.length = l2.length
  · have hb : ((l1.length : Int) != (l2.length : Int)) = false := by simp [hlen]
    have C1 := Lib.hid c1
    have C2 := Lib.hid c2
    have HL := Lib.hid hlen
    have HS := Lib.hid hs
    have HS2 := Lib.hid hs2
    rw [← hlen] at hb ⊢
    clear c1 c2 hlen hs hs2
    go_enter Tryz.func17, Tryz.ntmps17
    go_wp2_with fail
    go_loopw [5] (fun i wr => ∃ k : Nat, k ≤ l1.length ∧ i = .int .i64 (k : Int) ∧ Up w wr ∧ ∀ j, j < k → l1.getD j Pl.tok0 = l2.getD j Pl.tok0) (fun i _ => l1.length - (intOf i).toNat)
    case atStart => exact ⟨0, Nat.zero_le _, rfl, Up.self w, fun j h => absurd h (Nat.not_lt_zero _)⟩
    case round =>
      obtain ⟨k, hk, rfl, hup, hno⟩ := hrel
      have HNO := Lib.hid hno
      have HUP := Lib.hid hup
      clear hno hup
      by_cases hlt : k < l1.length
      · have hlt2 : k < l2.length := by have := HL.out; omega
        obtain ⟨g1, o1, s1, rfl, p1, p2, p3, p4, p5⟩ := C1.out k hlt
        obtain ⟨g2, o2, s2, rfl, q1, q2, q3, q4, q5⟩ := C2.out k hlt2
        have P5 := Lib.hid p5
        have Q5 := Lib.hid q5
        have d1 := (HUP.out.cells.1 _ _ (lt_of_cell p1)).trans p1
        have d2 := (HUP.out.cells.1 _ _ (lt_of_cell p1)).trans p2
        have d3 := (HUP.out.cells.1 _ _ (lt_of_cell p1)).trans p3
        have d4 := (HUP.out.cells.1 _ _ (lt_of_cell p1)).trans p4
        have e1 := (HUP.out.cells.1 _ _ (lt_of_cell q1)).trans q1
        have e2 := (HUP.out.cells.1 _ _ (lt_of_cell q1)).trans q2
        have e3 := (HUP.out.cells.1 _ _ (lt_of_cell q1)).trans q3
        have e4 := (HUP.out.cells.1 _ _ (lt_of_cell q1)).trans q4
        obtain ⟨p, hp⟩ : ∃ p, p = l1.getD k Pl.tok0 := ⟨_, rfl⟩
        obtain ⟨q, hq⟩ : ∃ q, q = l2.getD k Pl.tok0 := ⟨_, rfl⟩
        rw [← hp] at d1 d2 d4
        rw [← hq] at e1 e2 e4
        have HP := Lib.hid hp
        have HQ := Lib.hid hq
        have hpm : p ∈ l1 := by rw [hp]; simp [List.getD, hlt]
        have hqm : q ∈ l2 := by rw [hq]; simp [List.getD, hlt2]
        have hsp := HS.out p hpm
        have hsq := HS2.out q hqm
        clear p1 p2 p3 p4 p5 q1 q2 q3 q4 q5 hp hq hpm hqm
        go_wp2_with fail
        go_region_with (refine (refSame_any _ _ p q _ ⟨s1, rfl, by rw [HP.out]; exact P5.out.up HUP.out.drew⟩ ⟨s2, rfl, by rw [HQ.out]; exact Q5.out.up HUP.out.drew⟩ hsp hsq).mono ?_; rintro e w3 ⟨rfl, hu3⟩; have HU3 := Lib.hid (Up.trans HUP.out.drew hu3); clear hu3)
        all_goals
          clear d1 d2 d3 d4 e1 e2 e3 e4
          by_cases hpq : p = q
          · have HPQ := Lib.hid hpq
            rw [decide_eq_true hpq]
            clear hpq
            go_wp2_with fail
            go_roundw
            case rel =>
              refine ⟨k + 1, by omega, by go_num, HU3.out, fun j hj => ?_⟩
              by_cases e : j = k
              · subst e; rw [← HP.out, ← HQ.out]; exact HPQ.out
              · exact HNO.out j (by omega)
            all_goals (simp [intOf]; omega)
          · have hne' : decide (l1 = l2) = false := by
              rw [decide_eq_false_iff_not]
              intro e
              exact hpq (by rw [HP.out, HQ.out, e])
            have HNE := Lib.hid hne'
            rw [decide_eq_false hpq]
            clear hpq hne'
            go_wp2_with fail
            go_ret
            exact ⟨by rw [HNE.out]; rfl, HU3.out⟩
      · have hk1 : k = l1.length := by omega
        have he : l1 = l2 := by
          apply List.ext_getElem HL.out
          intro j h1 h2
          have := HNO.out j (by omega)
          simpa [List.getD, h1, h2] using this
        have HE := Lib.hid he
        clear he hk1
        go_wp2_with fail
        go_ret
        exact ⟨by rw [decide_eq_true HE.out]; rfl, HUP.out⟩
  · have hb : ((l1.length : Int) != (l2.length : Int)) = true := by
      have : ¬ (l1.length : Int) = (l2.length : Int) := by omega
      simpa using this
    have hne : decide (l1 = l2) = false := by
      rw [decide_eq_false_iff_not]
      intro e
      exact hlen (by rw [e])
    have HNE := Lib.hid hne
    clear c1 c2 hlen hne hs hs2
    go_enter Tryz.func17, Tryz.ntmps17
    go_wp2_with fail
    go_ret
    exact ⟨by rw [HNE.out]; rfl, Up.self w⟩

end Go.Proofs.YtckfgkmfeklcmaaGreatDoor
