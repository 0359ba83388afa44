/- Tokens: the laws Turns, Parts. -/
import Derived.Test.YtckfgkmfeklcmaaGreatDoorGL
import Derived.Test.YtckfgkmfeklcmaaGreatDoorGA
import Derived.Laws.AppendOwnNone
set_option linter.unusedVariables false
set_option linter.unusedSimpArgs false
namespace Go.Proofs.YtckfgkmfeklcmaaGreatDoor
open Go.RowKit Go.Shelf
attribute [local go_sem] Oper.semAt_some

theorem writeA_lenW (L : Nat) (l : List (List UInt8 × List UInt8)) (h : Pl.SmallA L l) : (Pl.writeA l).length ≤ l.length * (24 * L + 404) := by
  induction l with
  | nil => simp [Pl.writeA]
  | cons a t ih =>
    have h1 := ih (fun x hx => h x (by simp [hx]))
    have h2 := h a (by simp)
    have h3 := escaped_len a.2
    rw [Pl.writeA_cons, show (a :: t).length * (24 * L + 404) = t.length * (24 * L + 404) + (24 * L + 404) by rw [List.length_cons, Nat.add_mul, Nat.one_mul]]
    simp only [List.length_cons, List.length_append]
    omega
theorem write_lenW {L : Nat} {x : Pl.Tok} (h : Pl.SmallW L x) : (Pl.write x).length ≤ 20 * (24 * L + 404) + 24 * L + 405 := by
  obtain ⟨h1, h2, h3, h4⟩ := h
  have h5 := writeA_lenW L x.attrs h4
  have h6 := escaped_len x.text
  have h7 : x.attrs.length * (24 * L + 404) ≤ 20 * (24 * L + 404) := Nat.mul_le_mul_right _ h3
  unfold Pl.write
  split
  · omega
  · split
    · simp; omega
    · split
      · simp; omega
      · split
        · simp; omega
        · simp
theorem writes_len (l : List Pl.Tok) (h : ∀ x ∈ l, Pl.SmallW 500 x) : (l.flatMap Pl.write).length ≤ l.length * 260485 := by
  induction l with
  | nil => simp
  | cons a t ih =>
    have h1 := ih (fun x hx => h x (by simp [hx]))
    have h2 := write_lenW (h a (by simp))
    rw [List.flatMap_cons, List.length_append, List.length_cons]
    omega
theorem smallT_of {x : Pl.Tok} (h : Pl.SmallW 500 x) : SmallT x := by
  obtain ⟨h1, h2, h3, h4⟩ := h
  exact ⟨by omega, by omega, by omega, fun a ha => by have := h4 a ha; omega⟩

/-- append of a row's elements to a row of the call's own -/
theorem wpList_append_row {P : Program} {w : World} {ops : Array Oper} {rest : List Oper} {o : Oper} {a : Act} {Q : Exit → Act → World → Prop} (hgd : o.guard = none) (s x : Operand) (t : TypeId)
    (ho : o.op = .call { callee := .builtin .append, args := #[s, x], argTypes := #[t, t] })
    (base : Nat) (e : TypeId) (i : TypeInfo) (z : Value) (size bytes : Nat) (ht : P.underlying t = some (.slice e)) (hi : P.info? e = some i) (hz : i.zero = some z)
    (hsize : i.size = size) (hby : i.bytes = bytes) (hzs : z.cells.size = size) (hsz : 0 < size)
    (v : Value) (n : Nat) (xs : List Value) (hs : a.eval s = v) (hown : w.ownsRow base e size v n xs)
    (u : Value) (base' m : Nat) (ys : List Value) (hx : a.eval x = u) (hrow : w.ownsRow base' e size u m ys) (h1 : ∀ u ∈ ys, u.oneCell' = true)
    (h63 : n + m ≤ maxLen) (hbytes : (n + m) * bytes ≤ 140737488355328) (hbase : base ≤ w.heap.size)
    (h : ∀ v' w', w'.ownsRow base e size v' (n + m) (xs ++ ys) → w.grownBy w' v.ownBlock → wpList P ops Q rest (a.put o.dst v') w') :
    wpList P ops Q (o :: rest) a w := by
  have hl := hrow.1
  have hr := hrow
  rcases hrow.2 with ⟨rfl, h0⟩ | ⟨g, cap, cur, rfl, _, hg, _⟩
  · have hm : m = 0 := by
      rcases Nat.eq_zero_or_pos m with h | h
      · exact h
      · omega
    subst hm
    have hy : ys = [] := List.length_eq_zero_iff.1 (by rw [hl]; simp)
    subst hy
    refine wpList_append_own_none hgd s x t ho base e i size ht hi v n xs hs hown hx ?_
    refine h v w (by simpa using hown) ⟨rfl, rfl, rfl, Nat.le_refl _, fun _ _ _ => rfl⟩
  · refine wpList_append_own _ hgd s x t ho base e i z size bytes ht hi hz hsize hby hzs hsz v n xs hs hown ⟨g, 0, none⟩ m cap ys hx hl ?_ h1 h63 hbytes hbase ?_
    · intro j u hj
      exact hr.cells (g := g) rfl j u hj
    · intro v' w' k1 k2 _
      exact h v' w' k1 k2

theorem tcells_one {w : World} {l : List Pl.Tok} {xs : List Value} (h : TCells w l xs) : ∀ u ∈ xs, u.oneCell' = true := by
  induction h with
  | nil => simp
  | cons ha _ ih =>
    obtain ⟨_, ha⟩ := ha
    obtain ⟨a, c, rfl⟩ := row_slice ha
    intro u hu
    simp only [List.mem_cons] at hu
    rcases hu with rfl | rfl | rfl | rfl | hu
    · rfl
    · rfl
    · rfl
    · rfl
    · exact ih u hu
theorem allPost.ok {M : Nat} {s : List UInt8} {e : Ending} {w' : World} {l : List Pl.Tok} (h : allPost M s e w') (ht : Pl.all s = .ok l) :
    ∃ v, e = .returned (.tuple #[v, .int .i64 0, .int .i64 0]) ∧ ToksAt M w' v l := by
  rcases h with ⟨l', v, q1, q2, q3⟩ | ⟨p, e', q1, _⟩
  · rw [ht] at q1; injection q1 with q1; subst q1; exact ⟨v, q2, q3⟩
  · rw [ht] at q1; cases q1
theorem allPost.err {M : Nat} {s : List UInt8} {e : Ending} {w' : World} {p : Nat} {e' : Int} (h : allPost M s e w') (ht : Pl.all s = .error (p, e')) :
    e = .returned (.tuple #[.slice none 0 0, .int .i64 p, .int .i64 e']) := by
  rcases h with ⟨l', v, q1, _, _⟩ | ⟨p', e'', q1, q2⟩
  · rw [ht] at q1; cases q1
  · rw [ht] at q1; injection q1 with q1; injection q1 with q1 q3; subst q1; subst q3; exact q2

theorem allPost.any {M : Nat} {s : List UInt8} {e : Ending} {w' : World} (h : allPost M s e w') : ∃ (a : Option Addr) (n c p : Nat) (e' : Int), e = .returned (.tuple #[.slice a n c, .int .i64 (p : Int), .int .i64 e']) ∧
    ((∃ l, Pl.all s = .ok l ∧ n = l.length ∧ p = 0 ∧ e' = 0 ∧ ToksAt M w' (.slice a n c) l) ∨ (Pl.all s = .error (p, e') ∧ e' ≠ 0 ∧ p ≤ s.length ∧ n = 0)) := by
  rcases h with ⟨l, v, q1, q2, q3⟩ | ⟨p, e', q1, q2⟩
  · obtain ⟨a, c, rfl⟩ := q3.slice
    exact ⟨a, l.length, c, 0, 0, q2, .inl ⟨l, q1, rfl, rfl, rfl, q3⟩⟩
  · have := Pl.all_place _ s p e' (Nat.le_refl _) q1
    exact ⟨none, 0, 0, p, e', q2, .inr ⟨q1, this.2, this.1, rfl⟩⟩

set_option maxRecDepth 100000 in
set_option maxHeartbeats 6400000 in
theorem tokenParts_any (s t : List UInt8) (w : World) (hE : Env w) :
    Calls Tryz.prog 7 #[.string (mk s), .string (mk t)] w fun e w' => e = .returned (.bool true) ∧ Up w w' := by
  obtain ⟨i0, hi, hz0, hz1, hz2⟩ := info_parts Tryz.infoTok
  have HE := Lib.hid hE
  clear hE
  have hszs := mk_size s
  have hszt := mk_size t
  have hexs := mk_min s 250
  have hext := mk_min t 250
  have hms : min (s.length : Int) 250 = ((min s.length 250 : Nat) : Int) := by omega
  have hmt : min (t.length : Int) 250 = ((min t.length 250 : Nat) : Int) := by omega
  have hls : min s.length 250 ≤ s.length := by omega
  have hlt : min t.length 250 ≤ t.length := by omega
  obtain ⟨S, hS⟩ : ∃ S, S = s.take 250 := ⟨_, rfl⟩
  obtain ⟨T0, hT0⟩ : ∃ T0, T0 = t.take 250 := ⟨_, rfl⟩
  rw [← hS] at hexs
  rw [← hT0] at hext
  have hSl : S.length ≤ 250 := by rw [hS]; simp; omega
  have hTl : T0.length ≤ 250 := by rw [hT0]; simp; omega
  have n1 : ¬ 9223372036854775807 < 1 + (mk T0).size := by rw [mk_size]; omega
  have k1 : ({ data := #[60] } : ByteArray) ++ mk T0 = mk (60 :: T0) := by rw [show ({ data := #[60] } : ByteArray) = mk [60] from rfl, mk_app]; rfl
  clear hS hT0
  go_enter Tryz.func7, Tryz.ntmps7
  go_wp2_with fail
  refine (shown_any w HE.out).mono ?_
  rintro e w1 ⟨rfl, hu1⟩
  have HU1 := Lib.hid hu1
  clear hu1
  go_wp2_with fail
  clear hszs hszt hexs hext hms hmt hls hlt
  refine (all_any' S w1 (HE.out.up HU1.out) (by omega)).mono ?_
  rintro e w2 ⟨hp1, hu2⟩
  obtain ⟨a1, c1, p1, d1, e1, rfl, hq1⟩ := hp1.any
  have HP1 := Lib.hid hq1
  have HU2 := Lib.hid (Up.trans HU1.out hu2)
  clear hp1 hq1 hu2
  go_wp2_with fail
  refine (all_any' (60 :: T0) w2 (HE.out.up HU2.out) (by simp; omega)).mono ?_
  rintro e w3 ⟨hp2, hu3⟩
  obtain ⟨a2, c2, p2, d2, e2, rfl, hq2⟩ := hp2.any
  have HP2 := Lib.hid hq2
  have HU3 := Lib.hid (Up.trans HU2.out hu3)
  have HV3 := Lib.hid hu3
  have n2 : ¬ 9223372036854775807 < (mk S).size + (mk (60 :: T0)).size := by rw [mk_size, mk_size]; simp; omega
  have k2 : mk S ++ mk (60 :: T0) = mk (S ++ 60 :: T0) := mk_app _ _
  clear hp2 hq2 hu3 n1 k1
  go_wp2_with fail
  refine (all_any' (S ++ 60 :: T0) w3 (HE.out.up HU3.out) (by simp; omega)).mono ?_
  rintro e w4 ⟨hp3, hu4⟩
  obtain ⟨a3, c3, p3, d3, e3, rfl, hq3⟩ := hp3.any
  have HP3 := Lib.hid hq3
  have HU4 := Lib.hid (Up.trans HU3.out hu4)
  have HV4 := Lib.hid hu4
  have hszS := mk_size S
  clear hp3 hq3 hu4 n2 k2
  rcases HP1.out with ⟨l, g1, rfl, rfl, rfl, t1⟩ | ⟨g1, ne1, _, rfl⟩
  case inr =>
    have hne : (e1 != 0) = true := by simpa using ne1
    clear g1 ne1
    go_wp2_with fail
    go_ret
    exact ⟨rfl, HU4.out⟩
  rcases HP2.out with ⟨m, g2, rfl, rfl, rfl, t2⟩ | ⟨g2, ne2, lp2, rfl⟩
  case inr =>
    have hne : (e2 != 0) = true := by simpa using ne2
    have hp := Pl.parts _ S l T0 (Nat.le_refl _) g1
    rw [g2] at hp
    simp only at hp
    rcases HP3.out with ⟨l3, g3, _⟩ | ⟨g3, ne3, _, rfl⟩
    · rw [hp] at g3; cases g3
    · rw [hp] at g3
      injection g3 with g3
      injection g3 with g3 g4
      subst g3
      subst g4
      have hwr : wrap64 ((S.length : Int) + (d2 : Int)) = (S.length : Int) + (d2 : Int) := by simp only [List.length_cons] at lp2; unfold wrap64; omega
      clear g1 g2 ne2 ne3 hp t1
      go_wp2_with fail
      go_ret
      exact ⟨rfl, HU4.out⟩
  have hp := Pl.parts _ S l T0 (Nat.le_refl _) g1
  rw [g2] at hp
  simp only at hp
  obtain ⟨L, hL⟩ : ∃ L, L = l ++ m := ⟨_, rfl⟩
  rw [← hL] at hp
  rcases HP3.out with ⟨l3, g3, rfl, rfl, rfl, t3⟩ | ⟨g3, _, _, _⟩
  case inr => rw [hp] at g3; cases g3
  rw [hp] at g3
  injection g3 with g3
  subst g3
  have hs1 := Pl.all_small _ S l (Nat.le_refl _) g1
  have hs2 := Pl.all_small _ (60 :: T0) m (Nat.le_refl _) g2
  have hT0 : (60 :: T0).length ≤ 251 := by simp; omega
  have hl1 : l.length ≤ 250 := by omega
  have hl2 : m.length ≤ 251 := by omega
  have hsm : ∀ x ∈ L, x.attrs.length ≤ 1000000000 := fun x hx => by
    rw [hL] at hx
    rcases List.mem_append.1 hx with h | h
    · have := (hs1.2 x h).2.2.1; omega
    · have := (hs2.2 x h).2.2.1; omega
  have HSM := Lib.hid hsm
  have hLl : L.length ≤ 1000000000 := by rw [hL]; simp; omega
  have HLL := Lib.hid hLl
  have HL := Lib.hid hL
  have T3 := Lib.hid t3
  obtain ⟨xs, row1, tc1⟩ := (t1.up HV3.out).up HV4.out
  obtain ⟨ys, row2, tc2⟩ := t2.up HV4.out
  have R1 := Lib.hid row1
  have R2 := Lib.hid row2
  have C1 := Lib.hid tc1
  have C2 := Lib.hid tc2
  clear g1 g2 hp hs1 hs2 hsm hLl hL t1 t2 t3 row1 row2 tc1 tc2 HP1 HP2 HP3
  go_wp2_with (at_builtin; go_must (refine wpList_append_row rfl _ _ 36 rfl w4.heap.size 24 i0 (.agg #[.int .i64 0, .string ⟨#[]⟩, .slice none 0 0, .string ⟨#[]⟩]) 4 64 Tryz.underlying36 hi hz0 hz1 hz2 rfl (by decide) (.slice none 0 0) 0 [] rfl (World.ownsRow_nil _ _ _ _) (.slice a1 l.length p1) w1.heap.size l.length xs rfl R1.out (tcells_one C1.out) (by unfold maxLen; omega) (by omega) (Nat.le_refl _) ?_))
  intro v7 w7 own7 hg7
  have hu7 : Up w4 w7 := Below.grown (Below.refl _ _) hg7 (Nat.le_refl _) (fun k hk => by simp [Value.ownBlock] at hk)
  have row7 : w7.ownsRow w2.heap.size 24 4 (.slice a2 m.length p2) m.length ys := row_keeps R2.out fun g _ hg => (hu7.block g (lt_of_block hg)).trans hg
  have C7 := Lib.hid (C2.out.up hu7)
  obtain ⟨s7, k7, rfl⟩ := row_slice own7
  have O7 := Lib.hid own7
  have R7 := Lib.hid row7
  have U7 := Lib.hid hu7
  have hmn : w4.heap.size ≤ w7.heap.size := hu7.size
  clear own7 hg7 row7 hu7
  go_wp2_with (at_builtin; go_must (refine wpList_append_row rfl _ _ 36 rfl w4.heap.size 24 i0 (.agg #[.int .i64 0, .string ⟨#[]⟩, .slice none 0 0, .string ⟨#[]⟩]) 4 64 Tryz.underlying36 hi hz0 hz1 hz2 rfl (by decide) _ _ _ rfl O7.out (.slice a2 m.length p2) w2.heap.size m.length ys rfl R7.out (tcells_one C7.out) (by unfold maxLen; omega) (by omega) hmn ?_))
  intro v8 w8 own8 hg8
  have hu8 : Up w4 w8 := Below.grown U7.out hg8 hmn (fun k hk => (O7.out.lt k hk).1)
  have hat : ToksAt w4.heap.size w8 v8 (l ++ m) := ⟨xs ++ ys, by simpa using own8, (C1.out.up hu8).app (C7.out.keeps fun g c hg => by
    rw [hg8.block g (lt_of_block hg) (fun e => by
      rcases O7.out.2 with ⟨hv, _⟩ | ⟨k, cap, cur, hv, _, hgg, _⟩
      · rw [hv] at e; simp [Value.ownBlock] at e
      · rw [hv] at e
        simp [Value.ownBlock] at e
        subst e
        rw [hg] at hgg; injection hgg with e; injection e with _ e _; exact absurd e (by decide))]
    exact hg)⟩
  rw [← HL.out] at hat
  obtain ⟨s8, k8, rfl⟩ := hat.slice
  have HAT := Lib.hid hat
  have U8 := Lib.hid hu8
  clear own8 hg8 hat hu8
  have x1 := (T3.out.up U8.out).reads
  have x2 := HAT.out.reads
  have x4 := refList_any _ _ _ _ _ x1 x2 HLL.out HLL.out HSM.out HSM.out
  have hde : decide (L = L) = true := by simp
  rw [hde] at x4
  have RL := Lib.hid x4
  clear x1 x2 x4 hde
  go_wp2_with fail
  refine RL.out.mono ?_
  rintro e w9 ⟨rfl, hu9⟩
  have U9 := Lib.hid (Up.trans (Up.trans HU4.out U8.out) hu9)
  clear hu9
  go_wp2_with fail
  go_ret
  exact ⟨rfl, U9.out⟩
end Go.Proofs.YtckfgkmfeklcmaaGreatDoor
