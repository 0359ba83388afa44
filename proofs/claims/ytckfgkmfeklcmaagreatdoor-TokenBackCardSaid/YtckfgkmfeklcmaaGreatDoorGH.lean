/- The texts EscF, EscG, EscH, EscI of this claim in one: the walks and plain laws that the statement's proof rests on. -/
import Derived.Test.YtckfgkmfeklcmaaGreatDoorGG
import Derived.Test.YtckfgkmfeklcmaaGreatDoorShelf
set_option linter.unusedVariables false
set_option linter.unusedSimpArgs false
/- Escapes: what is laid once; line ends; the rune that digits tell. -/
namespace Pl
theorem numF_le (b : Nat) : ∀ (s : Bytes) (n m : Nat), n ≤ 18446744073709551615 → numF b n s = some m → m ≤ 18446744073709551615 := by
  intro s
  induction s with
  | nil => intro n m h e; simp only [numF, Option.some.injEq] at e; omega
  | cons c t ih =>
    intro n m h e
    rw [numF] at e
    split at e
    · cases e
    · rename_i h1
      simp only [Bool.or_eq_true, decide_eq_true_eq, not_or, ge_iff_le, Nat.not_le, Nat.not_lt] at h1
      refine ih _ m ?_ e
      have h2 : n * b ≤ 18446744073709551615 - digit c.toNat := Nat.le_trans (Nat.mul_le_mul_right b h1.2) (Nat.div_mul_le_self _ _)
      by_cases h3 : digit c.toNat ≤ 18446744073709551615
      · omega
      · have : n * b = 0 := by omega
        have h4 : digit c.toNat ≤ 99 := by unfold digit; (repeat' split) <;> (try simp at *) <;> omega
        omega
theorem numGet_le {b : Nat} {s : Bytes} {m : Nat} (h : numGet b s = some m) : m ≤ 18446744073709551615 := by
  unfold numGet at h
  split at h
  · cases h
  · exact numF_le b s 0 m (by omega) h
end Pl
namespace Go.Proofs.YtckfgkmfeklcmaaGreatDoor
open Go.RowKit Go.Shelf
attribute [local go_sem] Oper.semAt_some

/-- what the program's variables hold from its start on -/
structure Env (w : World) : Prop where
  errs : ∃ a b, ErrsAt w a b
  most : ∃ m : Int, w.cell? ⟨1, 0, none⟩ = some (.int .i64 m)
  tabs : Lib.Utf8Tabs 3 4 w
  et : w.cell? ⟨0, 0, none⟩ = some (.iface 108 (.agg #[.pointer (some ⟨6, 49, none⟩)]))
theorem Env.up {w w' : World} (h : Env w) (u : Up w w') : Env w' := by
  obtain ⟨a, b, h1⟩ := h.errs
  obtain ⟨m, h2⟩ := h.most
  exact ⟨⟨a, b, h1.up u⟩, ⟨m, (u.cells.1 _ 0 (lt_of_cell h2)).trans h2⟩, Utf8Tabs_below h.tabs u, (u.cells.1 _ 0 (lt_of_cell h.et)).trans h.et⟩

theorem count_small (s p : ByteArray) : Lib.countB s p ≤ s.size + 1 := by
  have := Lib.count_le s.data.toList p.data.toList
  rw [← Lib.size_eq] at this
  exact this
set_option maxRecDepth 100000 in
set_option maxHeartbeats 800000 in
theorem lines_any (s : List UInt8) (w : World) (h : Env w) (hs : s.length ≤ 1000000000) :
    Calls Tryz.prog 134 #[.string (mk s)] w fun e w' => e = .returned (.string (mk (Pl.lines s))) ∧ Up w w' := by
  obtain ⟨m, hm⟩ := h.most
  have H := Lib.hid h
  have hsz := mk_size s
  have c1 := Tryz.strings_ReplaceAll (mk s) ⟨#[13, 10]⟩ ⟨#[10]⟩ m w (by omega) hm (by decide) (by have := count_small (mk s) ⟨#[13, 10]⟩; have e : (⟨#[10]⟩ : ByteArray).size = 1 := rfl; rw [e]; omega)
  have e1 : (⟨(Lib.replaceAll (mk s).data.toList [13, 10] [10]).toArray⟩ : ByteArray) = mk (Pl.crlf s) := by rw [mk_list, Pl.repl_crlf _ s (Nat.le_refl _)]; rfl
  have C1 := Lib.hid c1
  clear c1
  have hl := Pl.crlf_le _ s (Nat.le_refl _)
  have hsz2 := mk_size (Pl.crlf s)
  go_enter Tryz.func134, Tryz.ntmps134
  go_wp2_with fail
  refine C1.out.mono ?_
  rintro e w1 ⟨rfl, hu1⟩
  rw [e1]
  obtain ⟨m2, hm2⟩ := (H.out.up hu1).most
  have c2 := Tryz.strings_ReplaceAll (mk (Pl.crlf s)) ⟨#[13]⟩ ⟨#[10]⟩ m2 w1 (by omega) hm2 (by decide) (by have := count_small (mk (Pl.crlf s)) ⟨#[13]⟩; have e : (⟨#[10]⟩ : ByteArray).size = 1 := rfl; rw [e]; omega)
  have e2 : (⟨(Lib.replaceAll (mk (Pl.crlf s)).data.toList [13] [10]).toArray⟩ : ByteArray) = mk (Pl.lines s) := by rw [mk_list, Pl.repl_cr, Pl.crs_crlf _ s (Nat.le_refl _)]; rfl
  have C2 := Lib.hid c2
  have HU1 := Lib.hid hu1
  clear c2 hm hm2 hsz hsz2 hu1
  go_wp2_with fail
  refine C2.out.mono ?_
  rintro e w2 ⟨rfl, hu2⟩
  rw [e2]
  go_wp2_with fail
  go_ret
  exact ⟨rfl, Up.trans HU1.out hu2⟩

theorem char_wrap (n : Nat) (h : n ≤ 18446744073709551615) : isCharI (IntKind.i64.wrap (n : Int)) = Pl.isChar n ∧ (Pl.isChar n = true → IntKind.i64.wrap (n : Int) = (n : Int)) := by
  rw [IntKind.wrap_i64]
  by_cases h1 : n < 9223372036854775808
  · rw [show ((n : Int) + 9223372036854775808) % 18446744073709551616 - 9223372036854775808 = (n : Int) by omega]
    exact ⟨isCharI_nat n, fun _ => rfl⟩
  · have hf : Pl.isChar n = false := by
      have h2 : ¬ (n ≤ 0x10ffff) := by omega
      simp [Pl.isChar]; omega
    refine ⟨?_, fun e => by rw [hf] at e; cases e⟩
    rw [hf]
    obtain ⟨k, hk⟩ : ∃ k : Int, k = ((n : Int) + 9223372036854775808) % 18446744073709551616 - 9223372036854775808 := ⟨_, rfl⟩
    rw [← hk]
    have hneg : k < 0 := by omega
    simp [isCharI, charL, spanHas]
    omega
theorem cutPrefix_lit (x : List UInt8) (p : ByteArray) (pl : List UInt8) (hp : p.data.toList = pl) (w : World) : Calls Tryz.prog 60 #[.string (mk x), .string p] w fun e w' => e = .returned (.tuple #[.string (mk (Lib.trimPrefix x pl)), .bool (Lib.hasPrefix x pl)]) ∧ w' = w := by
  have h := Tryz.strings_CutPrefix (mk x) p w
  rw [mk_list, hp] at h
  exact h
theorem countB_none {b : Nat} {l : List UInt8} (h : Pl.numGet b l = none) : Pl.countB b l = 0 := by unfold Pl.countB; rw [h]
theorem countB_some {b n : Nat} {l : List UInt8} (h : Pl.numGet b l = some n) : Pl.countB b l = if l.length > 8 || !Pl.isChar n then 0 else n := by unfold Pl.countB; rw [h]
theorem counted_cases (x : List UInt8) : (∃ t, x = 120 :: t ∧ Pl.counted x = Pl.countB 16 t ∧ Lib.hasPrefix x [120] = true ∧ Lib.trimPrefix x [120] = t) ∨ (Pl.counted x = Pl.countB 10 x ∧ Lib.hasPrefix x [120] = false ∧ Lib.trimPrefix x [120] = x) := by
  match x with
  | [] => exact .inr ⟨rfl, rfl, rfl⟩
  | c :: t =>
    by_cases hc : c = 120
    · subst hc
      exact .inl ⟨t, rfl, rfl, by simp [Lib.hasPrefix], by simp [Lib.trimPrefix, Lib.hasPrefix]⟩
    · have hp : Lib.hasPrefix (c :: t) [120] = false := by simp [Lib.hasPrefix, List.isPrefixOf]; exact fun e => hc (Eq.symm e)
      refine .inr ⟨?_, hp, by simp [Lib.trimPrefix, hp]⟩
      unfold Pl.counted
      split
      · rename_i h; injection h with h _; exact absurd h hc
      · rfl
set_option maxRecDepth 100000 in
set_option maxHeartbeats 1600000 in
theorem digits_any (x : List UInt8) (w : World) (h : Env w) (hx : x.length ≤ 1000000000) :
    Calls Tryz.prog 163 #[.string (mk x)] w fun e w' => e = .returned (.int .i64 ((Pl.counted x : Nat) : Int)) ∧ Up w w' := by
  obtain ⟨a, b, hE⟩ := h.errs
  have HE := Lib.hid hE
  clear hE h
  have hnot : ∀ (x : Bool) (w : World), (Op.unary .not (.bool x)).run Tryz.prog w = .ok (.bool (!x)) w := fun _ _ => rfl
  have hc1 := cutPrefix_lit x ⟨#[120]⟩ [120] rfl w
  have HC := Lib.hid hc1
  clear hc1
  obtain ⟨q, t, hp, h1, h2, h3, hq⟩ : ∃ (q : Nat) (t : List UInt8) (hp : Bool), Pl.counted x = Pl.countB q t ∧ Lib.hasPrefix x [120] = hp ∧ Lib.trimPrefix x [120] = t ∧ ((hp = true ∧ q = 16) ∨ (hp = false ∧ q = 10 ∧ t = x)) := by
    rcases counted_cases x with ⟨t, _, h1, h2, h3⟩ | ⟨h1, h2, h3⟩
    · exact ⟨16, t, true, h1, h2, h3, .inl ⟨rfl, rfl⟩⟩
    · exact ⟨10, x, false, h1, h2, h3, .inr ⟨rfl, rfl, rfl⟩⟩
  rcases hq with ⟨rfl, rfl⟩ | ⟨rfl, rfl, rfl⟩
  all_goals
    have H1 := Lib.hid h1
    have H2 := Lib.hid h2
    have H3 := Lib.hid h3
    clear h1 h2 h3
    go_enter Tryz.func163, Tryz.ntmps163
    go_wp2_with fail
    refine HC.out.mono ?_
    rintro e w1 ⟨rfl, rfl⟩
    rw [H2.out, H3.out]
    go_wp2_with fail
  · refine (numGet_all 16 t w1 a b HE.out (by omega)).mono ?_
    rintro e w2 ⟨rfl, hu2⟩
    have HU2 := Lib.hid hu2
    have hsz := mk_size t
    clear hu2
    cases hg : Pl.numGet 16 t with
    | none =>
      have hr : numOut none = .tuple #[.int .u64 0, .int .i64 30] := rfl
      rw [hr]
      have HG := Lib.hid hg
      clear hr hg
      go_wp2_with fail
      go_ret
      exact ⟨by rw [H1.out, countB_none HG.out]; rfl, HU2.out⟩
    | some n =>
      have hr : numOut (some n) = .tuple #[.int .u64 (n : Int), .int .i64 0] := rfl
      rw [hr]
      have hle := Pl.numGet_le hg
      obtain ⟨hcw1, hcw2⟩ := char_wrap n hle
      have HG := Lib.hid hg
      obtain ⟨k, hk⟩ : ∃ k : Int, k = IntKind.i64.wrap (n : Int) := ⟨_, rfl⟩
      rw [← hk] at hcw1 hcw2
      have hk' := Eq.symm hk
      have HC1 := Lib.hid hcw1
      have HC2 := Lib.hid hcw2
      clear hr hg hcw1 hcw2 hk hle
      by_cases h8 : 8 < t.length
      · have h8' : (8 : Int) < (t.length : Int) := by omega
        go_wp2_with fail
        go_ret
        exact ⟨by rw [H1.out, countB_some HG.out]; simp [h8], HU2.out⟩
      · have h8' : ¬ (8 : Int) < (t.length : Int) := by omega
        go_wp2_with fail
        refine (isChar_any k _).mono ?_
        rintro e w3 ⟨rfl, hu3⟩
        rw [HC1.out]
        cases hc : Pl.isChar n
        · have HCC := Lib.hid hc
          clear hc
          go_wp2_with fail
          go_ret
          exact ⟨by rw [H1.out, countB_some HG.out, HCC.out]; simp, Up.trans HU2.out hu3⟩
        · have HCC := Lib.hid hc
          clear hc
          go_wp2_with fail
          go_ret
          exact ⟨by rw [H1.out, countB_some HG.out, HCC.out]; simp [h8]; exact HC2.out HCC.out, Up.trans HU2.out hu3⟩
  · refine (numGet_all 10 t w1 a b HE.out (by omega)).mono ?_
    rintro e w2 ⟨rfl, hu2⟩
    have HU2 := Lib.hid hu2
    have hsz := mk_size t
    clear hu2
    cases hg : Pl.numGet 10 t with
    | none =>
      have hr : numOut none = .tuple #[.int .u64 0, .int .i64 30] := rfl
      rw [hr]
      have HG := Lib.hid hg
      clear hr hg
      go_wp2_with fail
      go_ret
      exact ⟨by rw [H1.out, countB_none HG.out]; rfl, HU2.out⟩
    | some n =>
      have hr : numOut (some n) = .tuple #[.int .u64 (n : Int), .int .i64 0] := rfl
      rw [hr]
      have hle := Pl.numGet_le hg
      obtain ⟨hcw1, hcw2⟩ := char_wrap n hle
      have HG := Lib.hid hg
      obtain ⟨k, hk⟩ : ∃ k : Int, k = IntKind.i64.wrap (n : Int) := ⟨_, rfl⟩
      rw [← hk] at hcw1 hcw2
      have hk' := Eq.symm hk
      have HC1 := Lib.hid hcw1
      have HC2 := Lib.hid hcw2
      clear hr hg hcw1 hcw2 hk hle
      by_cases h8 : 8 < t.length
      · have h8' : (8 : Int) < (t.length : Int) := by omega
        go_wp2_with fail
        go_ret
        exact ⟨by rw [H1.out, countB_some HG.out]; simp [h8], HU2.out⟩
      · have h8' : ¬ (8 : Int) < (t.length : Int) := by omega
        go_wp2_with fail
        refine (isChar_any k _).mono ?_
        rintro e w3 ⟨rfl, hu3⟩
        rw [HC1.out]
        cases hc : Pl.isChar n
        · have HCC := Lib.hid hc
          clear hc
          go_wp2_with fail
          go_ret
          exact ⟨by rw [H1.out, countB_some HG.out, HCC.out]; simp, Up.trans HU2.out hu3⟩
        · have HCC := Lib.hid hc
          clear hc
          go_wp2_with fail
          go_ret
          exact ⟨by rw [H1.out, countB_some HG.out, HCC.out]; simp [h8]; exact HC2.out HCC.out, Up.trans HU2.out hu3⟩
end Go.Proofs.YtckfgkmfeklcmaaGreatDoor

/- Escapes: the rune of a reference. -/
namespace Pl
theorem index_span (c : UInt8) : ∀ l : Bytes, (Go.Lib.indexByte l c = -1 ∧ (l.takeWhile (· != c)).length = l.length) ∨ (∃ i : Nat, Go.Lib.indexByte l c = i ∧ i < l.length ∧ l.takeWhile (· != c) = l.take i) := by
  intro l
  induction l with
  | nil => exact .inl ⟨rfl, rfl⟩
  | cons b t ih =>
    by_cases h : b = c
    · subst h
      exact .inr ⟨0, by simp [Go.Lib.indexByte], by simp, by simp⟩
    · have hb : (b == c) = false := by simpa using h
      rcases ih with ⟨h1, h2⟩ | ⟨i, h1, h2, h3⟩
      · refine .inl ⟨by simp [Go.Lib.indexByte, hb, h1], ?_⟩
        rw [List.takeWhile_cons_of_pos (by simpa using h)]; simpa using h2
      · refine .inr ⟨i + 1, ?_, by simp; omega, ?_⟩
        · have : ((i : Int) == -1) = false := by rw [beq_eq_false_iff_ne]; omega
          simp [Go.Lib.indexByte, hb, h1, this]
        · rw [List.takeWhile_cons_of_pos (by simpa using h), h3]; rfl
def wordsL : List Bytes := [[97, 109, 112], [108, 116], [103, 116], [113, 117, 111, 116], [97, 112, 111, 115]]
def ampN : List Nat := [38, 60, 62, 34, 39]
def wf (b : Bytes) (r0 : Nat) : Nat → Nat
  | 0 => r0
  | k + 1 => if wordsL.getD k [] = b then ampN.getD k 0 else wf b r0 k
def ref0 (b : Bytes) : Nat := match b with | 35 :: x => counted x | _ => 0
theorem wf_all (b : Bytes) : wf b (ref0 b) 5 = refVal b := by
  by_cases h0 : b = [97, 109, 112]
  · subst h0; decide
  by_cases h1 : b = [108, 116]
  · subst h1; decide
  by_cases h2 : b = [103, 116]
  · subst h2; decide
  by_cases h3 : b = [113, 117, 111, 116]
  · subst h3; decide
  by_cases h4 : b = [97, 112, 111, 115]
  · subst h4; decide
  simp only [wf, wordsL, List.getD_cons_zero, List.getD_cons_succ]
  rw [if_neg (fun e => h4 e.symm), if_neg (fun e => h3 e.symm), if_neg (fun e => h2 e.symm), if_neg (fun e => h1 e.symm), if_neg (fun e => h0 e.symm)]
  rcases b with _ | ⟨c, t⟩
  · rfl
  · by_cases hc : c = 35
    · subst hc; rfl
    · have e1 : ref0 (c :: t) = 0 := by
        unfold ref0
        split
        · rename_i h; injection h with h _; exact absurd h hc
        · rfl
      have e2 : refVal (c :: t) = named (c :: t) := by
        unfold refVal
        split
        · rename_i h; injection h with h _; exact absurd h hc
        · rfl
      rw [e1, e2]
      unfold named
      rw [if_neg h0, if_neg h1, if_neg h2, if_neg h3, if_neg h4]
theorem ref0_cases (b : Bytes) : (∃ x, b = 35 :: x ∧ ref0 b = counted x ∧ Go.Lib.hasPrefix b [35] = true ∧ Go.Lib.trimPrefix b [35] = x) ∨ (ref0 b = 0 ∧ Go.Lib.hasPrefix b [35] = false ∧ Go.Lib.trimPrefix b [35] = b) := by
  match b with
  | [] => exact .inr ⟨rfl, rfl, rfl⟩
  | c :: t =>
    by_cases hc : c = 35
    · subst hc
      exact .inl ⟨t, rfl, rfl, by simp [Go.Lib.hasPrefix], by simp [Go.Lib.trimPrefix, Go.Lib.hasPrefix]⟩
    · have hp : Go.Lib.hasPrefix (c :: t) [35] = false := by simp [Go.Lib.hasPrefix, List.isPrefixOf]; exact fun e => hc (Eq.symm e)
      refine .inr ⟨?_, hp, by simp [Go.Lib.trimPrefix, hp]⟩
      unfold ref0
      split
      · rename_i h; injection h with h _; exact absurd h hc
      · rfl
/-- what escape.Ref looks at ahead of the table -/
theorem ref_cases (s : Bytes) : ∃ (ok : Bool) (body : Bytes) (e : Int), Go.Lib.hasPrefix s [38] = ok ∧ Go.Lib.trimPrefix s [38] = body ∧ Go.Lib.indexByte body 59 = e ∧ body.length ≤ s.length ∧ e ≤ body.length ∧
    ((ref s = none ∧ (ok = false ∨ (ok = true ∧ e < 1) ∨ (ok = true ∧ 1 ≤ e ∧ 12 ≤ e))) ∨ (ok = true ∧ ∃ i : Nat, e = i ∧ 1 ≤ i ∧ i ≤ 11 ∧ i < body.length ∧ ref s = if refVal (body.take i) = 0 then none else some (refVal (body.take i), i + 2))) := by
  refine ⟨_, _, _, rfl, rfl, rfl, ?_, ?_, ?_⟩
  · unfold Go.Lib.trimPrefix; split <;> simp
  · rcases index_span 59 (Go.Lib.trimPrefix s [38]) with ⟨h, _⟩ | ⟨i, h, h2, _⟩ <;> omega
  · match s with
    | [] => exact .inl ⟨rfl, .inl rfl⟩
    | c :: t =>
      by_cases hc : c = 38
      · subst hc
        have h1 : Go.Lib.hasPrefix (38 :: t) [38] = true := by simp [Go.Lib.hasPrefix]
        have h2 : Go.Lib.trimPrefix (38 :: t) [38] = t := by simp [Go.Lib.trimPrefix, Go.Lib.hasPrefix]
        rw [h1, h2]
        have hr : ref (38 :: t) = if (t.takeWhile (· != (59 : UInt8))).length < 1 || (t.takeWhile (· != (59 : UInt8))).length > 11 || (t.takeWhile (· != (59 : UInt8))).length == t.length then none
          else if refVal (t.takeWhile (· != (59 : UInt8))) == 0 then none else some (refVal (t.takeWhile (· != (59 : UInt8))), (t.takeWhile (· != (59 : UInt8))).length + 2) := rfl
        rcases index_span 59 t with ⟨h3, h4⟩ | ⟨i, h3, h4, h5⟩
        · rw [h3]
          refine .inl ⟨?_, .inr (.inl ⟨rfl, by omega⟩)⟩
          rw [hr, if_pos (by simp [h4])]
        · rw [h3]
          have hl : (t.take i).length = i := by simp; omega
          rw [h5, hl] at hr
          by_cases g1 : i < 1
          · exact .inl ⟨by rw [hr, if_pos (by simp [g1])], .inr (.inl ⟨rfl, by omega⟩)⟩
          by_cases g2 : 11 < i
          · exact .inl ⟨by rw [hr, if_pos (by simp; omega)], .inr (.inr ⟨rfl, by omega, by omega⟩)⟩
          refine .inr ⟨rfl, i, rfl, by omega, by omega, h4, ?_⟩
          rw [hr, if_neg (by simp; omega)]
          simp
      · have hp : Go.Lib.hasPrefix (c :: t) [38] = false := by simp [Go.Lib.hasPrefix, List.isPrefixOf]; exact fun e => hc (Eq.symm e)
        refine .inl ⟨?_, .inl hp⟩
        unfold ref
        split
        · rename_i h; injection h with h _; exact absurd h hc
        · rfl
end Pl
namespace Go.Proofs.YtckfgkmfeklcmaaGreatDoor
open Go.RowKit Go.Shelf
attribute [local go_sem] Oper.semAt_some

def refV (s : List UInt8) : Value := match Pl.ref s with | some (q, k) => .tuple #[.int .i64 (q : Int), .int .i64 (k : Int), .int .i64 0] | none => .tuple #[.int .i64 0, .int .i64 0, .int .i64 40]
theorem refV_none {s : List UInt8} (h : Pl.ref s = none) : refV s = .tuple #[.int .i64 0, .int .i64 0, .int .i64 40] := by unfold refV; rw [h]
theorem refV_some {s : List UInt8} {q k : Nat} (h : Pl.ref s = some (q, k)) : refV s = .tuple #[.int .i64 (q : Int), .int .i64 (k : Int), .int .i64 0] := by unfold refV; rw [h]
theorem indexByte_59 (x : List UInt8) (w : World) : Calls Tryz.prog 162 #[.string (mk x), .int .u8 59] w fun e w' => e = .returned (.int .i64 (Lib.indexByte x 59)) ∧ w' = w := by
  have h := Tryz.strings_IndexByte (mk x) 59 w
  rw [mk_list] at h
  exact h
theorem word_cell {w : World} {wb k : Nat} (h : w.heap[wb]? = some (.cells wordsV 9 (0, 0))) (hk : k < 5) : w.cell? ⟨wb, k, none⟩ = some (.string (mk (Pl.wordsL.getD k []))) := by
  have h5 : k = 0 ∨ k = 1 ∨ k = 2 ∨ k = 3 ∨ k = 4 := by omega
  rcases h5 with rfl | rfl | rfl | rfl | rfl <;> exact cell_of_block h _
theorem rune_found {w : World} {rb k : Nat} (h : MapAt w rb runesKv) (hk : k < 5) : (Instr.lookup 140 (.map (some rb)) (.int .i64 (k : Int)) false).run Tryz.prog w = .ok (.int .i32 ((Pl.ampN.getD k 0 : Nat) : Int)) w := by
  have lk := run_lookup_ok (P := Tryz.prog) h (.int .i64 (k : Int)) (.int .i32 0) (eqI (k : Int)) Tryz.underlying140 Tryz.underlying3 rfl (Tryz.zeroRune w) (by simp [runesKv, sameNow_i64]) false
  rw [lk]
  have h5 : k = 0 ∨ k = 1 ∨ k = 2 ∨ k = 3 ∨ k = 4 := by omega
  rcases h5 with rfl | rfl | rfl | rfl | rfl <;> rfl

theorem fill_new (w : World) : Calls Tryz.prog 68 #[.pointer (some ⟨w.heap.size, 0, none⟩)] (w.alloc (.cells #[.int .u32 0, .int .i32 0, .int .u32 0, .map none, .map none, .slice none 0 0] 143)) fun e w' =>
    e = .returned (.pointer (some ⟨w.heap.size, 0, none⟩)) ∧ TableAt w' w.heap.size ∧ Up w w' := by
  refine (fill_any w.heap.size _ (heap_new rfl)).mono ?_
  rintro e w2 ⟨he, htab, hi2⟩
  have hi3 : ItTurns (fun k => w.heap.size ≤ k) w w2 := ⟨hi2.os, hi2.tape, hi2.output, Nat.le_trans (by simp) hi2.size, fun k o a b => hi2.same k o ((Below.heap_alloc _ _ _ (Array.getElem?_eq_some_iff.1 a).1).trans a) (by show ¬ k = _; have : ¬ (w.heap.size ≤ k) := b; omega)⟩
  exact ⟨he, htab, hi3.os, hi3.tape, hi3.output, hi3.size, fun k hk => by
    rw [Array.getElem?_eq_getElem hk]
    exact hi3.same k _ (Array.getElem?_eq_getElem hk) (by show ¬ (w.heap.size ≤ k); omega)⟩

set_option maxRecDepth 100000 in
set_option maxHeartbeats 3200000 in
theorem ref_any (s : List UInt8) (w : World) (h : Env w) (hs : s.length ≤ 1000000000) :
    Calls Tryz.prog 140 #[.string (mk s)] w fun e w' => e = .returned (refV s) ∧ Up w w' := by
  have H := Lib.hid h
  clear h
  have hnot : ∀ (x : Bool) (w : World), (Op.unary .not (.bool x)).run Tryz.prog w = .ok (.bool (!x)) w := fun _ _ => rfl
  obtain ⟨ok, body, e, h1, h2, h3, hb, he, hc⟩ := Pl.ref_cases s
  have H1 := Lib.hid h1
  have H2 := Lib.hid h2
  have H3 := Lib.hid h3
  clear h1 h2 h3
  rcases hc with ⟨hr, hwhy⟩ | ⟨rfl, i, rfl, h4, h5, h6, hr⟩
  · have HR := Lib.hid hr
    clear hr
    rcases hwhy with rfl | ⟨rfl, hlt⟩ | ⟨rfl, hge, hge2⟩
    · go_enter Tryz.func140, Tryz.ntmps140
      go_wp2_with fail
      refine (cutPrefix_lit s ⟨#[38]⟩ [38] rfl w).mono ?_
      rintro e w1 ⟨rfl, rfl⟩
      rw [H1.out, H2.out]
      go_wp2_with fail
      refine (indexByte_59 body _).mono ?_
      rintro e w1 ⟨rfl, rfl⟩
      rw [H3.out]
      go_wp2_with fail
      go_ret3
      exact ⟨by rw [refV_none HR.out]; rfl, Up.self _⟩
    · go_enter Tryz.func140, Tryz.ntmps140
      go_wp2_with fail
      refine (cutPrefix_lit s ⟨#[38]⟩ [38] rfl w).mono ?_
      rintro e w1 ⟨rfl, rfl⟩
      rw [H1.out, H2.out]
      go_wp2_with fail
      refine (indexByte_59 body _).mono ?_
      rintro e w1 ⟨rfl, rfl⟩
      rw [H3.out]
      go_wp2_with fail
      go_ret3
      exact ⟨by rw [refV_none HR.out]; rfl, Up.self _⟩
    · have hn1 : ¬ e < 1 := by omega
      have hn2 : (13 : Int) ≤ e + 1 := by omega
      go_enter Tryz.func140, Tryz.ntmps140
      go_wp2_with fail
      refine (cutPrefix_lit s ⟨#[38]⟩ [38] rfl w).mono ?_
      rintro e w1 ⟨rfl, rfl⟩
      rw [H1.out, H2.out]
      go_wp2_with fail
      refine (indexByte_59 body _).mono ?_
      rintro e w1 ⟨rfl, rfl⟩
      rw [H3.out]
      go_wp2_with fail
      go_ret3
      exact ⟨by rw [refV_none HR.out]; rfl, Up.self _⟩
  · have HR := Lib.hid hr
    clear hr
    have hn1 : ¬ (i : Int) < 1 := by omega
    have hn2 : ¬ (13 : Int) ≤ (i : Int) + 1 := by omega
    have hsz := mk_size body
    have hex : (mk body).extract 0 i = mk (body.take i) := by rw [mk_cut]; rfl
    go_enter Tryz.func140, Tryz.ntmps140
    go_wp2_with fail
    refine (cutPrefix_lit s ⟨#[38]⟩ [38] rfl w).mono ?_
    rintro e w1 ⟨rfl, rfl⟩
    rw [H1.out, H2.out]
    go_wp2_with fail
    refine (indexByte_59 body _).mono ?_
    rintro e w1 ⟨rfl, rfl⟩
    rw [H3.out]
    go_wp2_with fail
    refine (fill_new _).mono ?_
    rintro e w2 ⟨rfl, htab, hu2⟩
    have HTAB := Lib.hid htab
    have HU2 := Lib.hid hu2
    have H2' := Lib.hid (H.out.up hu2)
    clear htab hu2 hex hsz
    generalize w1.heap.size = tb at *
    obtain ⟨b, hbb⟩ : ∃ b, b = body.take i := ⟨_, rfl⟩
    rw [← hbb]
    have HBB := Lib.hid hbb
    have hbl : b.length ≤ 1000000000 := by rw [hbb]; simp; omega
    clear hbb
    obtain ⟨hp, x, g1, g2, g3⟩ : ∃ (hp : Bool) (x : List UInt8), Lib.hasPrefix b [35] = hp ∧ Lib.trimPrefix b [35] = x ∧ ((hp = true ∧ Pl.ref0 b = Pl.counted x ∧ x.length ≤ 1000000000) ∨ (hp = false ∧ Pl.ref0 b = 0)) := by
      rcases Pl.ref0_cases b with ⟨x, q1, q2, q3, q4⟩ | ⟨q1, q2, q3⟩
      · exact ⟨true, x, q3, q4, .inl ⟨rfl, q2, by rw [q1] at hbl; simp at hbl; omega⟩⟩
      · exact ⟨false, b, q2, q3, .inr ⟨rfl, q1⟩⟩
    have G1 := Lib.hid g1
    have G2 := Lib.hid g2
    clear g1 g2
    go_wp2_with fail
    refine (cutPrefix_lit b ⟨#[35]⟩ [35] rfl w2).mono ?_
    rintro e w3 ⟨rfl, rfl⟩
    rw [G1.out, G2.out]
    rcases g3 with ⟨rfl, g4, g5⟩ | ⟨rfl, g4⟩
    · have G4 := Lib.hid g4
      clear g4
      go_wp2_with fail
      refine (digits_any x w3 H2'.out g5).mono ?_
      rintro e w4 ⟨rfl, hu4⟩
      rw [← G4.out]
      have HTAB4 := Lib.hid (HTAB.out.up hu4)
      have HU4 := Lib.hid (Up.trans HU2.out hu4)
      clear hu4 HTAB HU2 H2'
      obtain ⟨nb, rb, wb, a1, a2, a3, a4⟩ := HTAB4.out.lay
      have c5 : w4.cell? ⟨tb, 5, none⟩ = some (.slice (some ⟨wb, 0, none⟩) 5 5) := cell_of_block a1 5
      have c4 : w4.cell? ⟨tb, 4, none⟩ = some (.map (some rb)) := cell_of_block a1 4
      have A3 := Lib.hid a3
      have A4 := Lib.hid a4
      clear a1 a2 a3 a4
      go_wp2_with fail
      go_loop [9, 12, 13, 51] (fun r _ _ k => ∃ n : Nat, n ≤ 5 ∧ k = .int .i64 (n : Int) ∧ r = .int .i64 ((Pl.wf b (Pl.ref0 b) n : Nat) : Int)) (fun _ _ _ k => 5 - (intOf k).toNat)
      case atStart => exact ⟨0, by omega, rfl, rfl⟩
      case round =>
        obtain ⟨n, hn5, rfl, rfl⟩ := hrel
        by_cases hlt : n < 5
        · have cw := word_cell A4.out hlt
          have lk := rune_found A3.out hlt
          have hwf : Pl.wf b (Pl.ref0 b) (n + 1) = if Pl.wordsL.getD n [] = b then Pl.ampN.getD n 0 else Pl.wf b (Pl.ref0 b) n := rfl
          have hamp : ((Pl.ampN.getD n 0 : Nat) : Int) < 128 := by
            have : ∀ n : Fin 5, Pl.ampN.getD n.1 0 < 128 := by decide
            exact_mod_cast this ⟨n, hlt⟩
          generalize Pl.ampN.getD n 0 = am at *
          generalize Pl.wordsL.getD n [] = wo at *
          by_cases hwb : wo = b
          · have HW := Lib.hid (hwf.trans (if_pos hwb))
            subst hwb
            clear hwf
            go_wp2_with fail
            go_round
            case rel => exact ⟨n + 1, by omega, by go_num, by rw [HW.out]⟩
            case measure => simp [intOf]; omega
          · have HW := Lib.hid (hwf.trans (if_neg hwb))
            have hbeq : ((mk wo).toList == (mk b).toList) = false := by rw [mk_toList, mk_toList]; simpa using hwb
            clear hwf
            go_wp2_with fail
            go_round
            case rel => exact ⟨n + 1, by omega, by go_num, by rw [HW.out]⟩
            case measure => simp [intOf]; omega
        · have hn : n = 5 := by omega
          subst hn
          rw [Pl.wf_all]
          have hr := HR.out
          rw [← HBB.out] at hr
          obtain ⟨q, hq⟩ : ∃ q, q = Pl.refVal b := ⟨_, rfl⟩
          rw [← hq] at hr ⊢
          clear hq
          by_cases hq0 : q = 0
          · have HR1 := Lib.hid (hr.trans (if_pos hq0))
            subst hq0
            clear hr
            go_wp2_with fail
            go_ret3
            exact ⟨by rw [refV_none HR1.out]; rfl, HU4.out⟩
          · have HR1 := Lib.hid (hr.trans (if_neg hq0))
            have hqb : ((q : Int) == 0) = false := by simpa using hq0
            clear hr hq0
            go_wp2_with fail
            go_ret3
            exact ⟨by rw [refV_some HR1.out]; rfl, HU4.out⟩
    · have G4 := Lib.hid g4
      have HTAB4 := HTAB
      have HU4 := HU2
      clear g4
      obtain ⟨nb, rb, wb, a1, a2, a3, a4⟩ := HTAB4.out.lay
      have c5 : w3.cell? ⟨tb, 5, none⟩ = some (.slice (some ⟨wb, 0, none⟩) 5 5) := cell_of_block a1 5
      have c4 : w3.cell? ⟨tb, 4, none⟩ = some (.map (some rb)) := cell_of_block a1 4
      have A3 := Lib.hid a3
      have A4 := Lib.hid a4
      clear a1 a2 a3 a4
      go_wp2_with fail
      go_loop [9, 12, 13, 51] (fun r _ _ k => ∃ n : Nat, n ≤ 5 ∧ k = .int .i64 (n : Int) ∧ r = .int .i64 ((Pl.wf b (Pl.ref0 b) n : Nat) : Int)) (fun _ _ _ k => 5 - (intOf k).toNat)
      case atStart => exact ⟨0, by omega, rfl, by rw [show Pl.wf b (Pl.ref0 b) 0 = 0 from G4.out]; rfl⟩
      case round =>
        obtain ⟨n, hn5, rfl, rfl⟩ := hrel
        by_cases hlt : n < 5
        · have cw := word_cell A4.out hlt
          have lk := rune_found A3.out hlt
          have hwf : Pl.wf b (Pl.ref0 b) (n + 1) = if Pl.wordsL.getD n [] = b then Pl.ampN.getD n 0 else Pl.wf b (Pl.ref0 b) n := rfl
          have hamp : ((Pl.ampN.getD n 0 : Nat) : Int) < 128 := by
            have : ∀ n : Fin 5, Pl.ampN.getD n.1 0 < 128 := by decide
            exact_mod_cast this ⟨n, hlt⟩
          generalize Pl.ampN.getD n 0 = am at *
          generalize Pl.wordsL.getD n [] = wo at *
          by_cases hwb : wo = b
          · have HW := Lib.hid (hwf.trans (if_pos hwb))
            subst hwb
            clear hwf
            go_wp2_with fail
            go_round
            case rel => exact ⟨n + 1, by omega, by go_num, by rw [HW.out]⟩
            case measure => simp [intOf]; omega
          · have HW := Lib.hid (hwf.trans (if_neg hwb))
            have hbeq : ((mk wo).toList == (mk b).toList) = false := by rw [mk_toList, mk_toList]; simpa using hwb
            clear hwf
            go_wp2_with fail
            go_round
            case rel => exact ⟨n + 1, by omega, by go_num, by rw [HW.out]⟩
            case measure => simp [intOf]; omega
        · have hn : n = 5 := by omega
          subst hn
          rw [Pl.wf_all]
          have hr := HR.out
          rw [← HBB.out] at hr
          obtain ⟨q, hq⟩ : ∃ q, q = Pl.refVal b := ⟨_, rfl⟩
          rw [← hq] at hr ⊢
          clear hq
          by_cases hq0 : q = 0
          · have HR1 := Lib.hid (hr.trans (if_pos hq0))
            subst hq0
            clear hr
            go_wp2_with fail
            go_ret3
            exact ⟨by rw [refV_none HR1.out]; rfl, HU4.out⟩
          · have HR1 := Lib.hid (hr.trans (if_neg hq0))
            have hqb : ((q : Int) == 0) = false := by simpa using hq0
            clear hr hq0
            go_wp2_with fail
            go_ret3
            exact ⟨by rw [refV_some HR1.out]; rfl, HU4.out⟩
end Go.Proofs.YtckfgkmfeklcmaaGreatDoor

/- Escapes: one rune, or reference, of a raw text. -/
namespace Go.Proofs.YtckfgkmfeklcmaaGreatDoor
open Go.RowKit Go.Shelf
attribute [local go_sem] Oper.semAt_some

def wrongE (e at' : Int) : Value := .iface 192 (.agg #[.int .i64 e, .int .i64 at'])
/-- a reader of a raw text -/
def RdE (w : World) (x : Nat) (rest : List UInt8) (size : Int) (err : Value) : Prop := w.heap[x]? = some (.cells #[.string (mk rest), .int .i64 size, err] 163 (0, 0))

set_option maxRecDepth 100000 in
set_option maxHeartbeats 1600000 in
theorem efail_any (x : Nat) (rest : List UInt8) (size why : Int) (err : Value) (w : World) (h : RdE w x rest size err) (h0 : 0 ≤ size) (h1 : size ≤ 1000000000) (h2 : rest.length ≤ 1000000000) :
    Calls Tryz.prog 139 #[.pointer (some ⟨x, 0, none⟩), .int .i64 why] w fun e w' => e = .returned (.tuple #[]) ∧ RdE w' x rest size (wrongE why (size - rest.length)) ∧ ItTurns (fun k => k = x) w w' := by
  have h' : w.heap[x]? = _ := h
  have c0 : w.cell? ⟨x, 0, none⟩ = some (.string (mk rest)) := cell_of_block h' 0
  have c1 : w.cell? ⟨x, 1, none⟩ = some (.int .i64 size) := cell_of_block h' 1
  have c2 : w.cell? ⟨x, 2, none⟩ = some err := cell_of_block h' 2
  have f2 := frozen_of_block h' 2
  have hsz := mk_size rest
  have hw := i64_in (size - rest.length) (by omega) (by omega)
  have H := Lib.hid h'
  clear h h'
  go_enter Tryz.func139, Tryz.ntmps139
  go_wp2
  go_region
  all_goals
    go_wp2
    go_end0
    exact ⟨rfl, heap_setCell_at (w := w) (i := 2) H.out, ItTurns.drew (ItTurns.set (Xs := fun k => k = x) (ItTurns.refl _ w) ⟨x, 2, none⟩ _ rfl)⟩
theorem RdE.up {w w' : World} {x : Nat} {rest : List UInt8} {size : Int} {err : Value} (h : RdE w x rest size err) (u : Up w w') : RdE w' x rest size err := (u.block x (lt_of_block h)).trans h
theorem RdE.cell0 {w : World} {x : Nat} {rest : List UInt8} {size : Int} {err : Value} (h : RdE w x rest size err) : w.cell? ⟨x, 0, none⟩ = some (.string (mk rest)) := cell_of_block h 0
theorem RdE.cell2 {w : World} {x : Nat} {rest : List UInt8} {size : Int} {err : Value} (h : RdE w x rest size err) : w.cell? ⟨x, 2, none⟩ = some err := cell_of_block h 2
theorem RdE.free {w : World} {x : Nat} {rest : List UInt8} {size : Int} {err : Value} (h : RdE w x rest size err) (i : Nat) : w.frozen? ⟨x, i, none⟩ = false := frozen_of_block h i
theorem RdE.set {w : World} {x : Nat} {rest t : List UInt8} {size : Int} {err : Value} (h : RdE w x rest size err) : RdE (w.setCell ⟨x, 0, none⟩ (.string (mk t))) x t size err := heap_setCell_at (i := 0) h

theorem cut_end (l : List UInt8) (k : Nat) : (mk l).extract k l.length = mk (l.drop k) := by rw [mk_cut, List.take_length]
theorem hasPrefix_lit (x : List UInt8) (p : ByteArray) (pl : List UInt8) (hp : p.data.toList = pl) (w : World) : Calls Tryz.prog 141 #[.string (mk x), .string p] w fun e w' => e = .returned (.bool (Lib.hasPrefix x pl)) ∧ w' = w := by
  have h := Tryz.strings_HasPrefix (mk x) p w
  rw [mk_list, hp] at h
  exact h
theorem hasPrefix_two (l : List UInt8) : Lib.hasPrefix l [13, 10] = decide (l.take 2 = [13, 10]) := by
  match l with
  | [] => rfl
  | [c] => by_cases h : c = 13 <;> simp [Lib.hasPrefix, List.isPrefixOf, h]
  | c :: d :: t =>
    by_cases h : c = 13 <;> by_cases h' : d = 10 <;> simp [Lib.hasPrefix, List.isPrefixOf, h, h'] <;> (intros; first | exact fun e => h (Eq.symm e) | exact fun e => h' (Eq.symm e) | (intro; exact fun e => h' (Eq.symm e)))
theorem enc_13 {r : Nat} (hr : Pl.isRune r = true) : ((mk (Pl.enc r)).toList == [13]) = decide (r = 13) := by
  rw [mk_toList]
  by_cases h : r = 13
  · subst h; rfl
  · have : ¬ Pl.enc r = [13] := fun e => Pl.enc_no13 hr h 13 (by rw [e]; simp) rfl
    simp [h, this]
theorem encT_nat {q : Nat} (h : Pl.isRune q = true) : encT (q : Int) = Pl.enc q ∧ encE (q : Int) = 0 := by
  have h1 : runeI (q : Int) = true := by rw [← isRune_eq]; exact h
  simp [encT, encE, h1]
def runePost (x : Nat) (rest : List UInt8) (size : Int) (e : Ending) (w' : World) : Prop :=
  match Pl.one rest with
  | .error e' => e = .returned (.string (mk [])) ∧ RdE w' x rest size (wrongE e' (size - rest.length))
  | .ok (o, n) => e = .returned (.string (mk o)) ∧ RdE w' x (rest.drop n) size .nilIface
theorem runePost_err {x : Nat} {rest : List UInt8} {size e' : Int} {e : Ending} {w' : World} (h : Pl.one rest = .error e') (h1 : e = .returned (.string (mk []))) (h2 : RdE w' x rest size (wrongE e' (size - rest.length))) : runePost x rest size e w' := by
  unfold runePost; rw [h]; exact ⟨h1, h2⟩
theorem runePost_ok {x : Nat} {rest o : List UInt8} {size : Int} {n : Nat} {e : Ending} {w' : World} (h : Pl.one rest = .ok (o, n)) (h1 : e = .returned (.string (mk o))) (h2 : RdE w' x (rest.drop n) size .nilIface) : runePost x rest size e w' := by
  unfold runePost; rw [h]; exact ⟨h1, h2⟩

set_option maxRecDepth 100000 in
set_option maxHeartbeats 3200000 in
theorem rune_any (x : Nat) (rest : List UInt8) (size : Int) (w : World) (hE : Env w) (h : RdE w x rest size .nilIface) (h0 : 0 ≤ size) (h1 : size ≤ 1000000000) (h2 : rest.length ≤ 1000000000) :
    Calls Tryz.prog 111 #[.pointer (some ⟨x, 0, none⟩)] w fun e w' => runePost x rest size e w' ∧ ItTurns (fun k => k = x) w w' := by
  have hnot : ∀ (x : Bool) (w : World), (Op.unary .not (.bool x)).run Tryz.prog w = .ok (.bool (!x)) w := fun _ _ => rfl
  have HE := Lib.hid hE
  have H := Lib.hid h
  have c0 := h.cell0
  have hsz := mk_size rest
  clear hE h
  go_enter Tryz.func111, Tryz.ntmps111
  go_wp2_with fail
  refine (decode_any rest _ (by omega)).mono ?_
  rintro e w1 ⟨rfl, hu1⟩
  have HE1 := Lib.hid (HE.out.up hu1)
  have HR1 := Lib.hid (H.out.up hu1)
  have HI1 := Lib.hid (ItTurns.of_up (Xs := fun k => k = x) hu1)
  clear HE H hu1 c0
  cases hd : Pl.dec rest with
  | none =>
    obtain ⟨z1, z2, z3⟩ := decE_none hd
    have hone : Pl.one rest = .error 20 := by unfold Pl.one; rw [hd]
    have HO := Lib.hid hone
    generalize decE rest = de at *
    rw [z1, z2]
    have hz : (de != 0) = true := by simpa using z3
    clear z1 z2 hd hone
    go_wp2_with fail
    refine (efail_any x rest size 20 .nilIface _ HR1.out h0 h1 h2).mono ?_
    rintro e w2 ⟨rfl, hr2, hi2⟩
    have HR2 := Lib.hid hr2
    have HI2 := Lib.hid (ItTurns.trans HI1.out hi2)
    clear hr2 hi2
    go_wp2
    go_ret
    exact ⟨runePost_err HO.out rfl HR2.out, HI2.out⟩
  | some p =>
    obtain ⟨r, n⟩ := p
    obtain ⟨z1, z2, z3⟩ := decE_some hd
    obtain ⟨hr, hn, u, hu⟩ := Pl.dec_some hd
    rw [z1, z2, z3]
    have hnl : n ≤ rest.length := by rw [hu]; simp; omega
    have hn0 : 0 < n := by have := Pl.enc_pos r; omega
    have hex : (mk rest).extract 0 n = mk (Pl.enc r) := by rw [mk_cut, List.drop_zero, hn, hu, List.take_left]
    have hone : Pl.one rest = if r == 60 || !Pl.isChar r then .error 40 else if r == 38 then (match Pl.ref rest with | none => .error 40 | some (q, k) => .ok (Pl.enc q, k)) else if r == 13 then (if rest.take 2 = [13, 10] then .ok ([10], 2) else .ok ([10], 1)) else .ok (Pl.enc r, n) := by
      unfold Pl.one; rw [hd]; rfl
    have HO := Lib.hid hone
    have hrl := Pl.enc_lt hr
    have HRR := Lib.hid hr
    have HN := Lib.hid hn
    have HU := Lib.hid hu
    clear hone hd z1 z2 z3 hr hn hu
    have c0 := HR1.out.cell0
    by_cases h60 : r = 60
    · subst h60
      go_wp2_with fail
      refine (efail_any x rest size 40 .nilIface _ HR1.out h0 h1 h2).mono ?_
      rintro e w2 ⟨rfl, hr2, hi2⟩
      have HR2 := Lib.hid hr2
      have HI2 := Lib.hid (ItTurns.trans HI1.out hi2)
      clear hr2 hi2 c0
      go_wp2
      go_ret
      exact ⟨runePost_err (by rw [HO.out]; rfl) rfl HR2.out, HI2.out⟩
    have hb60 : ((r : Int) == 60) = false := by
      have : ¬ (r : Int) = 60 := by omega
      simpa using this
    go_wp2_with fail
    refine (isChar_any (r : Int) _).mono ?_
    rintro e w2 ⟨rfl, hu2⟩
    rw [isCharI_nat]
    have HE2 := Lib.hid (HE1.out.up hu2)
    have HR2 := Lib.hid (HR1.out.up hu2)
    have HI2 := Lib.hid (ItTurns.trans HI1.out (ItTurns.of_up (Xs := fun k => k = x) hu2))
    clear hu2 c0 HE1 HR1 HI1
    have c0 := HR2.out.cell0
    cases hc : Pl.isChar r
    · have HC := Lib.hid hc
      clear hc
      go_wp2_with fail
      refine (efail_any x rest size 40 .nilIface _ HR2.out h0 h1 h2).mono ?_
      rintro e w3 ⟨rfl, hr3, hi3⟩
      have HR3 := Lib.hid hr3
      have HI3 := Lib.hid (ItTurns.trans HI2.out hi3)
      clear hr3 hi3 c0
      go_wp2
      go_ret
      exact ⟨runePost_err (by rw [HO.out, HC.out]; simp) rfl HR3.out, HI3.out⟩
    · have HC := Lib.hid hc
      clear hc
      by_cases h38 : r = 38
      · subst h38
        go_wp2_with fail
        refine (ref_any rest _ HE2.out h2).mono ?_
        rintro e w3 ⟨rfl, hu3⟩
        have HR3 := Lib.hid (HR2.out.up hu3)
        have HI3 := Lib.hid (ItTurns.trans HI2.out (ItTurns.of_up (Xs := fun k => k = x) hu3))
        clear hu3 c0 HE2 HR2 HI2
        have c0 := HR3.out.cell0
        have f0 := HR3.out.free 0
        cases hrf : Pl.ref rest with
        | none =>
          rw [refV_none hrf]
          have HRF := Lib.hid hrf
          clear hrf
          go_wp2_with fail
          refine (efail_any x rest size 40 .nilIface _ HR3.out h0 h1 h2).mono ?_
          rintro e w4 ⟨rfl, hr4, hi4⟩
          have HR4 := Lib.hid hr4
          have HI4 := Lib.hid (ItTurns.trans HI3.out hi4)
          clear hr4 hi4 c0 f0
          go_wp2
          go_ret
          exact ⟨runePost_err (by rw [HO.out, HC.out, HRF.out]; rfl) rfl HR4.out, HI4.out⟩
        | some p =>
          obtain ⟨q, k⟩ := p
          rw [refV_some hrf]
          have hok := Pl.ref_ok hrf
          have HRF := Lib.hid hrf
          clear hrf
          have hcmp : ((mk (Pl.enc 38)).toList == [13]) = false := enc_13 (r := 38) (by decide)
          have hkl : k ≤ rest.length := hok.2.2
          go_wp2_with fail
          refine (encode_any (q : Int) _).mono ?_
          rintro e w5 ⟨rfl, hu5⟩
          obtain ⟨e1, e2⟩ := encT_nat (q := q) (Pl.isChar_isRune hok.1)
          rw [e1, e2]
          have HR5 := Lib.hid (HR3.out.up hu5)
          have HI5 := Lib.hid (ItTurns.trans HI3.out (ItTurns.of_up (Xs := fun k => k = x) hu5))
          clear hu5 c0 f0 e1 e2
          have c0 := HR5.out.cell0
          have f0 := HR5.out.free 0
          have hcut := cut_end rest k
          go_wp2_with fail
          go_ret
          exact ⟨runePost_ok (by rw [HO.out, HC.out, HRF.out]; rfl) rfl HR5.out.set, ItTurns.set (Xs := fun k => k = x) HI5.out ⟨x, 0, none⟩ _ rfl⟩
      · have hb38 : ((r : Int) == 38) = false := by
          have : ¬ (r : Int) = 38 := by omega
          simpa using this
        have f0 := HR2.out.free 0
        have hcmp := enc_13 (r := r) HRR.out
        have h60' : (r == 60) = false := by simpa using h60
        have h38' : (r == 38) = false := by simpa using h38
        by_cases h13 : r = 13
        · subst h13
          have hcmp' : ((mk (Pl.enc 13)).toList == [13]) = true := hcmp
          clear hcmp
          go_wp2_with fail
          refine (hasPrefix_lit rest ⟨#[13, 10]⟩ [13, 10] rfl _).mono ?_
          rintro e w3 ⟨rfl, rfl⟩
          by_cases h10 : rest.take 2 = [13, 10]
          · have hp : Lib.hasPrefix rest [13, 10] = true := by rw [hasPrefix_two, h10]; rfl
            have h2l : 2 ≤ rest.length := by have := congrArg List.length h10; simp at this; omega
            have H10 := Lib.hid h10
            rw [hp]
            clear hp h10
            have hcut := cut_end rest 2
            go_wp2_with fail
            go_ret
            exact ⟨runePost_ok (o := [10]) (n := 2) (by rw [HO.out, HC.out, if_neg (by decide), if_neg (by decide), if_pos (by decide), if_pos H10.out]) rfl HR2.out.set, ItTurns.set (Xs := fun k => k = x) HI2.out ⟨x, 0, none⟩ _ rfl⟩
          · have hp : Lib.hasPrefix rest [13, 10] = false := by rw [hasPrefix_two]; simpa using h10
            have hn1 : n = 1 := HN.out
            subst hn1
            have H10 := Lib.hid h10
            rw [hp]
            clear hp h10
            have hcut := cut_end rest 1
            go_wp2_with fail
            go_ret
            exact ⟨runePost_ok (o := [10]) (n := 1) (by rw [HO.out, HC.out, if_neg (by decide), if_neg (by decide), if_pos (by decide), if_neg H10.out]) rfl (by rw [List.drop_one]; exact HR2.out.set), ItTurns.set (Xs := fun k => k = x) HI2.out ⟨x, 0, none⟩ _ rfl⟩
        · have hcmp' : ((mk (Pl.enc r)).toList == [13]) = false := by rw [hcmp]; simpa using h13
          have h13' : (r == 13) = false := by simpa using h13
          have H60 := Lib.hid h60'
          have H38 := Lib.hid h38'
          have H13 := Lib.hid h13'
          clear hcmp h60' h38' h13'
          go_wp2_with fail
          refine (encode_any (r : Int) _).mono ?_
          rintro e w5 ⟨rfl, hu5⟩
          obtain ⟨e1, e2⟩ := encT_nat (q := r) HRR.out
          rw [e1, e2]
          have HR5 := Lib.hid (HR2.out.up hu5)
          have HI5 := Lib.hid (ItTurns.trans HI2.out (ItTurns.of_up (Xs := fun k => k = x) hu5))
          clear hu5 c0 f0 e1 e2
          have c0 := HR5.out.cell0
          have f0 := HR5.out.free 0
          have hcut := cut_end rest n
          go_wp2_with fail
          go_ret
          exact ⟨runePost_ok (by rw [HO.out, HC.out, H60.out, H38.out, H13.out]; rfl) rfl HR5.out.set, ItTurns.set (Xs := fun k => k = x) HI5.out ⟨x, 0, none⟩ _ rfl⟩
end Go.Proofs.YtckfgkmfeklcmaaGreatDoor

/- Escapes: going through what a raw text stands for. -/
namespace Go.Proofs.YtckfgkmfeklcmaaGreatDoor
open Go.RowKit Go.Shelf
attribute [local go_sem] Oper.semAt_some

/-- the program's variables, told by the blocks that lay there -/
theorem Env.of_blocks {w w' : World} (h : Env w) (hs : w.heap.size ≤ w'.heap.size) (hk : ∀ k, k < w.heap.size → w'.heap[k]? = w.heap[k]?) : Env w' := by
  have hb : Up w { w with heap := w'.heap } := ⟨rfl, rfl, rfl, hs, hk⟩
  have h' := h.up hb
  obtain ⟨⟨a, b, e⟩, ⟨m, h2⟩, h3, h4⟩ := h'
  exact ⟨⟨a, b, e.ea, e.eb, e.ha, e.hb, e.ne⟩, ⟨m, h2⟩, h3, h4⟩

/-- what the rest of a raw text adds -/
def joined (pre : List (List UInt8)) (s rest : List UInt8) : Prop :=
  Pl.get s = match Pl.get rest with | .error (p, e) => .error (s.length - rest.length + p, e) | .ok t => .ok (pre.flatten ++ t)
theorem joined_step {pre : List (List UInt8)} {s rest o : List UInt8} {n : Nat} (h : joined pre s rest) (hl : rest.length ≤ s.length) (ho : Pl.one rest = .ok (o, n)) : joined (pre ++ [o]) s (rest.drop n) := by
  have hk := Pl.one_ok ho
  unfold joined at h ⊢
  rw [h, Pl.get_ok ho]
  cases hg : Pl.get (rest.drop n) with
  | error q => obtain ⟨p, e⟩ := q; simp only [List.length_drop]; congr 2; omega
  | ok t => simp
def PartsDone (x : Nat) (s : List UInt8) (xs : List (List UInt8)) (w : World) : Prop :=
  (Pl.get s = .ok xs.flatten ∧ RdE w x [] (s.length : Int) .nilIface) ∨ (∃ (p : Nat) (e : Int) (rest : List UInt8), Pl.get s = .error (p, e) ∧ RdE w x rest (s.length : Int) (wrongE e (p : Int)))

set_option maxRecDepth 100000 in
set_option maxHeartbeats 3200000 in
theorem parts_seq (p x M : Nat) (s : List UInt8) (w : World) (hpx : p ≠ x) (hMx : M ≤ x) (hp : w.heap[p]? = some (.cells #[.pointer (some ⟨x, 0, none⟩)] 159 (0, 0))) (hx : RdE w x s (s.length : Int) .nilIface) (hs : s.length ≤ 1000000000)
    (hE : ∀ W : World, w.heap.size ≤ W.heap.size → (∀ k, k < M → W.heap[k]? = w.heap[k]?) → Env W) :
    SeqC (α := List UInt8) Tryz.prog 110 #[.pointer (some ⟨p, 0, none⟩)] (fun o => #[.string (mk o)]) (fun k => k = x) (fun k => k = p ∨ k = x ∨ k < M) (fun pre o => pre.flatten.length + o.length ≤ 4000000000)
      (fun xs W => PartsDone x s xs W) (fun _ _ => True) w := by
  intro n l J Jx W hJ hJx hY h0 hK
  have hp1 := (hK.same p (.inl rfl)).trans hp
  have hx1 : RdE W x s (s.length : Int) .nilIface := (hK.same x (.inr (.inl rfl))).trans hx
  have hm1 : ∀ k, k < M → W.heap[k]? = w.heap[k]? := fun k hk => hK.same k (.inr (.inr hk))
  have hs1 := hK.size
  have HJ := Lib.hid hJ
  have HY := Lib.hid hY
  have HE := Lib.hid hE
  clear hp hx hK hJ hJx hY hE
  refine callsIn_of_wp Tryz.func110 rfl trivial ?_ rfl
  simp only [Tryz.ntmps110, List.size_toArray, List.length_cons, List.length_nil, Nat.reduceAdd, Nat.reduceSub, Array.replicate_succ, Array.replicate_zero, List.push_toArray, List.append_toArray, List.nil_append, List.cons_append]
  refine wpIn_scope_straight ?_
  gi_wp2_with (apply wpIn_label)
  gi_loopw [3] (fun _ wr => ∃ (pre : List (List UInt8)) (rest : List UInt8), wr.heap[p]? = some (.cells #[.pointer (some ⟨x, 0, none⟩)] 159 (0, 0)) ∧ RdE wr x rest (s.length : Int) .nilIface ∧
      joined pre s rest ∧ rest.length ≤ s.length ∧ pre.flatten.length + 4 * rest.length ≤ 4 * s.length ∧ J pre wr ∧ (∀ k, k < M → wr.heap[k]? = w.heap[k]?) ∧ w.heap.size ≤ wr.heap.size) (fun _ wr => leftAt wr x)
  case atStart => exact ⟨[], s, hp1, hx1, by unfold joined; cases Pl.get s <;> simp, by simp, by simp, h0, hm1, hs1⟩
  case round =>
    obtain ⟨pre, rest, hp2, hx2, hjn, hrl, hlen, hj, hm2, hs2⟩ := hrel
    have HP := Lib.hid hp2
    have HX := Lib.hid hx2
    have HJ1 := Lib.hid hj
    have HJN := Lib.hid hjn
    have HM := Lib.hid hm2
    have HE2 := Lib.hid (HE.out wr hs2 hm2)
    have cp := cell_of_one hp2
    have cx := hx2.cell0
    clear hp2 hx2 hjn hj hm2 hp1 hx1 h0 hm1
    cases hrc : rest with
    | nil =>
      subst hrc
      have hbeq : ((mk []).toList == []) = true := by rw [mk_toList]; rfl
      gi_wp2_with fail
      rw [noGoto_normal]
      refine bodyPost_end (results_none rfl _ _ _) rfl ?_
      refine ⟨⟨_, rfl⟩, .inl ⟨pre, .inl ⟨?_, HX.out⟩, HJ1.out⟩⟩
      have h := HJN.out
      unfold joined at h
      rw [h, Pl.get_nil]; simp
    | cons c t =>
      have hne : rest ≠ [] := by rw [hrc]; simp
      have hbeq : ((mk rest).toList == []) = false := by rw [mk_toList]; simpa using hne
      have HNE := Lib.hid hne
      clear hrc hne
      gi_wp2_with fail
      refine wide_call ((callsIn_wide.2 (rune_any x rest (s.length : Int) wr HE2.out HX.out (by omega) (by omega) (by omega))).mono ?_)
      rintro e w1 ⟨hpost, hit⟩
      have hp3 := hit.same p _ HP.out hpx
      have hj3 := HJ.out _ _ _ HJ1.out hit
      have hm3 : ∀ k, k < M → w1.heap[k]? = w.heap[k]? := fun k hk => by
        have h1 := HM.out k hk
        rw [← h1]
        cases hc : wr.heap[k]? with
        | some o => exact hit.same k o hc (by omega)
        | none =>
          exfalso
          have h2 := lt_of_block HX.out
          have h3 : wr.heap.size ≤ k := by rw [Array.getElem?_eq_none_iff] at hc; exact hc
          omega
      have hs3 := Nat.le_trans hs2 hit.size
      have HP3 := Lib.hid hp3
      have HJ3 := Lib.hid hj3
      have HM3 := Lib.hid hm3
      clear hp3 hj3 hm3 hit cx cp hbeq
      cases ho : Pl.one rest with
      | error e' =>
        unfold runePost at hpost
        rw [ho] at hpost
        obtain ⟨rfl, hr⟩ := hpost
        have HO := Lib.hid ho
        have c2 := hr.cell2
        unfold wrongE at c2
        have HR := Lib.hid hr
        have cp := cell_of_one HP3.out
        clear hr ho
        gi_wp2_with fail
        refine And.intro (fun f hf => nomatch hf) ?_
        gi_wp2_with fail
        rw [noGoto_normal]
        refine bodyPost_end (results_none rfl _ _ _) rfl ?_
        have hg := HJN.out
        unfold joined at hg
        rw [Pl.get_err HNE.out HO.out] at hg
        refine ⟨⟨_, rfl⟩, .inl ⟨pre, .inr ⟨_, _, rest, hg, ?_⟩, HJ3.out⟩⟩
        have h2 := HR.out
        rw [show ((s.length - rest.length + 0 : Nat) : Int) = (s.length : Int) - rest.length by omega]
        exact h2
      | ok q =>
        obtain ⟨o, m⟩ := q
        unfold runePost at hpost
        rw [ho] at hpost
        obtain ⟨rfl, hr⟩ := hpost
        have hok := Pl.one_ok ho
        have hol : o.length ≤ 4 := by
          obtain ⟨_, _, r, _, rfl⟩ := hok
          exact Pl.enc_le r
        have hmn : 0 < m := hok.1
        have hml : m ≤ rest.length := hok.2.1
        have HO := Lib.hid ho
        have c2 := hr.cell2
        have HR := Lib.hid hr
        have cp := cell_of_one HP3.out
        obtain ⟨fn, tmps, assign, body, hy, hR⟩ := HY.out pre o w1 HJ3.out (by omega)
        have HRR := Lib.hid hR
        clear hr ho hok hR
        gi_wp2_with fail
        refine ⟨fun h => by simp [Fence.wide] at h, HRR.out.mono ?_⟩
        rintro e W3 (⟨rfl, hj6, hk6⟩ | ⟨rfl, hj6, hk6⟩)
        · have HX6 := Lib.hid (show RdE W3 x (rest.drop m) (s.length : Int) .nilIface from (hk6.same x (.inr (.inl rfl))).trans HR.out)
          have HP6 := Lib.hid ((hk6.same p (.inl rfl)).trans HP3.out)
          have HJ6 := Lib.hid hj6
          have hs6 := Nat.le_trans hs3 hk6.size
          have HM6 := Lib.hid (show ∀ k, k < M → W3.heap[k]? = w.heap[k]? from fun k hk => (hk6.same k (.inr (.inr hk))).trans (HM3.out k hk))
          clear hj6 hk6 hy c2 cp
          gi_wp2_with fail
          go_roundw
          case rel =>
            refine ⟨pre ++ [o], rest.drop m, HP6.out, HX6.out, joined_step HJN.out hrl HO.out, by simp; omega, ?_, HJ6.out, HM6.out, hs6⟩
            rw [List.flatten_append, List.length_append, show [o].flatten = o from by simp, List.length_drop]
            omega
          case measure =>
            have e1 : leftAt W3 x = rest.length - m := by
              unfold leftAt; rw [HX6.out.cell0]; simp [mk_size]
            have e2 : leftAt wr x = rest.length := by
              unfold leftAt; rw [HX.out.cell0]; simp [mk_size]
            rw [e1, e2]; omega
        · have HJ6 := Lib.hid hj6
          clear hj6 hk6 hy c2 cp
          gi_wp2_with fail
          rw [noGoto_normal]
          refine bodyPost_end (results_none rfl _ _ _) rfl ?_
          exact ⟨⟨_, rfl⟩, .inr ⟨_, trivial, HJ6.out⟩⟩
end Go.Proofs.YtckfgkmfeklcmaaGreatDoor
