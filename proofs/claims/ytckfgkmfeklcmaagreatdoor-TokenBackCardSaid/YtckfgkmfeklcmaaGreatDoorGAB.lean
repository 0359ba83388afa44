/- The texts PlDec, PlFlat of this claim in one: the walks and plain laws that the statement's proof rests on. -/
import Derived.Test.YtckfgkmfeklcmaaGreatDoorGA
import GoSem.Core.Utf8
import Derived.Lib.Replace
import Derived.Lib.MapLaws
set_option linter.unusedVariables false
set_option linter.unusedSimpArgs false
/- Plain words: what a range over a text decodes. -/
namespace Pl
def mkB (l : List UInt8) : ByteArray := ⟨l.toArray⟩
theorem mkB_get (l : List UInt8) (i : Nat) : (mkB l).get! i = l.getD i 0 := by
  unfold mkB
  show (l.toArray)[i]! = _
  simp [List.getD, getElem!_def]
  cases l[i]? <;> rfl
theorem getD_at (s : List UInt8) (k j : Nat) (u : List UInt8) (h : s.drop k = u) : s.getD (k + j) 0 = u.getD j 0 := by
  subst h; simp [List.getD, List.getElem?_drop]
theorem decode_enc (s t : List UInt8) (k r : Nat) (hr : isRune r = true) (h : s.drop k = enc r ++ t) : Go.Utf8.decode (mkB s) k = (r, (enc r).length) := by
  have hsz : (mkB s).size = s.length := by simp [mkB, ByteArray.size]
  have hlen : (enc r).length ≤ s.length - k := by
    have := congrArg List.length h; simp at this; omega
  have hg : ∀ j, (mkB s).get! (k + j) = (enc r ++ t).getD j 0 := fun j => by rw [mkB_get, getD_at s k j _ h]
  have hr2 : r ≤ 0x10ffff := by simp [isRune] at hr; omega
  have hv : Go.Utf8.valid (r : Int) = true := by simp [isRune] at hr; simp [Go.Utf8.valid]; omega
  unfold Go.Utf8.decode
  simp only [hg, hsz]
  clear hg
  have hlenv := enc_length r
  unfold enc at h ⊢
  split
  · rename_i h1
    have e1 : r.toUInt8.toNat = r := u8 r (by omega)
    simp [e1, h1]
  · split
    · rename_i h1 h2
      have e1 : (0xc0 + r / 64).toUInt8.toNat = 0xc0 + r / 64 := u8 _ (by omega)
      have e2 : (0x80 + r % 64).toUInt8.toNat = 0x80 + r % 64 := u8 _ (by omega)
      rw [if_neg h1, if_pos h2] at hlenv
      simp only [List.cons_append, List.nil_append, List.getD_cons_zero, List.getD_cons_succ, e1, e2]
      rw [if_neg (by omega), if_pos (by simp; omega), show (192 + r / 64) % 32 * 64 + (128 + r % 64) % 64 = r by omega, if_pos (by omega)]
      rfl
    · split
      · rename_i h1 h2 h3
        have e1 : (0xe0 + r / 4096).toUInt8.toNat = 0xe0 + r / 4096 := u8 _ (by omega)
        have e2 : (0x80 + r / 64 % 64).toUInt8.toNat = 0x80 + r / 64 % 64 := u8 _ (by omega)
        have e3 : (0x80 + r % 64).toUInt8.toNat = 0x80 + r % 64 := u8 _ (by omega)
        rw [if_neg h1, if_neg h2, if_pos h3] at hlenv
        simp only [List.cons_append, List.nil_append, List.getD_cons_zero, List.getD_cons_succ, e1, e2, e3]
        rw [if_neg (by omega), if_neg (by simp; omega), if_pos (by simp; omega), show (224 + r / 4096) % 16 * 4096 + (128 + r / 64 % 64) % 64 * 64 + (128 + r % 64) % 64 = r by omega, if_pos (by simp [hv]; omega)]
        rfl
      · rename_i h1 h2 h3
        have e1 : (0xf0 + r / 262144).toUInt8.toNat = 0xf0 + r / 262144 := u8 _ (by omega)
        have e2 : (0x80 + r / 4096 % 64).toUInt8.toNat = 0x80 + r / 4096 % 64 := u8 _ (by omega)
        have e3 : (0x80 + r / 64 % 64).toUInt8.toNat = 0x80 + r / 64 % 64 := u8 _ (by omega)
        have e4 : (0x80 + r % 64).toUInt8.toNat = 0x80 + r % 64 := u8 _ (by omega)
        rw [if_neg h1, if_neg h2, if_neg h3] at hlenv
        simp only [List.cons_append, List.nil_append, List.getD_cons_zero, List.getD_cons_succ, e1, e2, e3, e4]
        rw [if_neg (by omega), if_neg (by simp; omega), if_neg (by simp; omega), if_pos (by simp; omega), show (240 + r / 262144) % 8 * 262144 + (128 + r / 4096 % 64) % 64 * 4096 + (128 + r / 64 % 64) % 64 * 64 + (128 + r % 64) % 64 = r by omega, if_pos (by simp [hv]; omega)]
        rfl
end Pl

/- Plain words: lines, blanks made one kind, as the library makes them. -/
namespace Pl

/-! what the library's ReplaceAll makes -/
theorem repl_def (s old new : Bytes) (hne : old ≠ new) : Go.Lib.replaceAll s old new = Go.Lib.replaceK old new (Go.Lib.count s old) s := by
  unfold Go.Lib.replaceAll Go.Lib.replace Go.Lib.replaceNum
  have : ¬ (old == new) = true := by simpa using hne
  rw [if_neg this, if_pos (.inl (by omega))]
theorem repl_nil (old new : Bytes) (ho : old ≠ []) (hne : old ≠ new) : Go.Lib.replaceAll [] old new = [] := by
  have hi : Go.Lib.index ([] : Bytes) old = -1 := by
    rcases Go.Lib.index_spec [] old with ⟨h, _⟩ | ⟨i, h1, h2, h3, _⟩
    · exact h
    · rcases Go.Lib.occAt_room h3 with h | h
      · have : 0 < old.length := List.length_pos_iff.2 ho
        simp only [List.length_nil] at h; omega
      · exact absurd h ho
  rw [repl_def _ _ _ hne, Go.Lib.count_miss hi]
  rfl
theorem repl_hit (old new s : Bytes) (ho : old ≠ []) (hne : old ≠ new) : Go.Lib.replaceAll (old ++ s) old new = new ++ Go.Lib.replaceAll s old new := by
  have hp : Go.Lib.occAt (old ++ s) old 0 = true := by simp [Go.Lib.occAt]
  have hi : Go.Lib.index (old ++ s) old = (0 : Nat) := Go.Lib.index_first (Nat.zero_le _) hp (fun _ h => absurd h (Nat.not_lt_zero _))
  rw [repl_def _ _ _ hne, repl_def _ _ _ hne, Go.Lib.count_hit ho hi, Nat.add_comm, Go.Lib.replaceK_hit _ _ _ _ _ hi]
  simp
theorem repl_miss (old new s : Bytes) (c : UInt8) (ho : old ≠ []) (hne : old ≠ new) (hp : old.isPrefixOf (c :: s) = false) : Go.Lib.replaceAll (c :: s) old new = c :: Go.Lib.replaceAll s old new := by
  rw [repl_def _ _ _ hne, repl_def _ _ _ hne]
  rcases Go.Lib.index_spec s old with ⟨h1, _⟩ | ⟨i, h1, _, _, _⟩
  · have hi : Go.Lib.index (c :: s) old = -1 := by unfold Go.Lib.index; rw [hp, h1]; rfl
    rw [Go.Lib.count_miss hi, Go.Lib.count_miss h1]; rfl
  · have hi : Go.Lib.index (c :: s) old = ((i + 1 : Nat) : Int) := by
      unfold Go.Lib.index
      rw [hp, h1]
      have : ((i : Int) == -1) = false := by rw [beq_eq_false_iff_ne]; omega
      simp [this]
    rw [Go.Lib.count_hit ho hi, Go.Lib.count_hit ho h1, Nat.add_comm 1, Nat.add_comm 1, Go.Lib.replaceK_hit _ _ _ _ _ hi, Go.Lib.replaceK_hit _ _ _ _ _ h1, show i + 1 + old.length = (i + old.length) + 1 by omega]
    simp
def crlf : Bytes → Bytes
  | [] => []
  | [c] => [c]
  | c :: d :: t => if c = 13 ∧ d = 10 then 10 :: crlf t else c :: crlf (d :: t)
def crs : Bytes → Bytes := List.map fun c => if c = 13 then 10 else c
theorem repl_crlf : ∀ (k : Nat) (s : Bytes), s.length ≤ k → Go.Lib.replaceAll s [13, 10] [10] = crlf s := by
  intro k
  induction k with
  | zero =>
    intro s h
    have : s = [] := List.length_eq_zero_iff.1 (by omega)
    subst this
    rw [repl_nil _ _ (by simp) (by simp)]; rfl
  | succ k ih =>
    intro s h
    match s, h with
    | [], _ => rw [repl_nil _ _ (by simp) (by simp)]; rfl
    | [c], _ =>
      rw [repl_miss _ _ _ _ (by simp) (by simp) (by simp [List.isPrefixOf]), repl_nil _ _ (by simp) (by simp)]; rfl
    | c :: d :: t, h =>
      by_cases hc : c = 13 ∧ d = 10
      · obtain ⟨rfl, rfl⟩ := hc
        have := repl_hit [13, 10] [10] t (by simp) (by simp)
        rw [show ([13, 10] : Bytes) ++ t = 13 :: 10 :: t from rfl] at this
        rw [this, ih t (by simp at h; omega)]
        rfl
      · rw [repl_miss _ _ _ _ (by simp) (by simp) (by
          simp only [List.isPrefixOf, Bool.and_true, Bool.and_eq_false_iff, beq_eq_false_iff_ne, ne_eq]
          by_cases h1 : c = 13
          · exact .inr (fun e => hc ⟨h1, e.symm⟩)
          · exact .inl (fun e => h1 e.symm)), ih (d :: t) (by simp at h ⊢; omega)]
        rw [crlf, if_neg hc]
theorem repl_cr (s : Bytes) : Go.Lib.replaceAll s [13] [10] = crs s := by
  induction s with
  | nil => rw [repl_nil _ _ (by simp) (by simp)]; rfl
  | cons c t ih =>
    by_cases hc : c = 13
    · subst hc
      have := repl_hit [13] [10] t (by simp) (by simp)
      rw [show ([13] : Bytes) ++ t = 13 :: t from rfl] at this
      rw [this, ih]; rfl
    · rw [repl_miss _ _ _ _ (by simp) (by simp) (by simp [List.isPrefixOf]; exact fun e => hc e.symm), ih]
      simp [crs, hc]
theorem crs_crlf : ∀ (k : Nat) (s : Bytes), s.length ≤ k → crs (crlf s) = lines s := by
  intro k
  induction k with
  | zero =>
    intro s h
    have : s = [] := List.length_eq_zero_iff.1 (by omega)
    subst this; rfl
  | succ k ih =>
    intro s h
    match s, h with
    | [], _ => rfl
    | [c], _ =>
      simp [crlf, crs, lines]
      split <;> rfl
    | c :: d :: t, h =>
      have h1 := ih (d :: t) (by simp at h ⊢; omega)
      have h2 := ih t (by simp at h; omega)
      simp only [crlf, lines, beq_iff_eq]
      by_cases hc : c = 13
      · by_cases hd : d = 10
        · rw [if_pos ⟨hc, hd⟩, if_pos hc, if_pos hd, ← h2]; rfl
        · rw [if_neg (fun e => hd e.2), if_pos hc, if_neg hd, ← h1, hc]; rfl
      · rw [if_neg (fun e => hc e.1), if_neg hc, ← h1]
        simp [crs, hc]
/-- escape.Lines -/
theorem lines_repl (s : Bytes) : Go.Lib.replaceAll (Go.Lib.replaceAll s [13, 10] [10]) [13] [10] = lines s := by
  rw [repl_crlf _ s (Nat.le_refl _), repl_cr, crs_crlf _ s (Nat.le_refl _)]
theorem crlf_le : ∀ (k : Nat) (s : Bytes), s.length ≤ k → (crlf s).length ≤ s.length := by
  intro k
  induction k with
  | zero =>
    intro s h
    have : s = [] := List.length_eq_zero_iff.1 (by omega)
    subst this; exact Nat.le_refl _
  | succ k ih =>
    intro s h
    match s, h with
    | [], _ => exact Nat.le_refl _
    | [c], _ => exact Nat.le_refl _
    | c :: d :: t, h =>
      have h1 := ih (d :: t) (by simp at h ⊢; omega)
      have h2 := ih t (by simp at h; omega)
      rw [crlf]
      split
      · simp; omega
      · simpa using h1
theorem lines_le (s : Bytes) : (lines s).length ≤ s.length := by
  rw [← crs_crlf _ s (Nat.le_refl _)]
  have := crlf_le _ s (Nat.le_refl _)
  simpa [crs] using this

/-! texts that can be read are runes -/
def Valid (s : Bytes) : Prop := ∃ l : List Nat, (∀ r ∈ l, isRune r = true) ∧ s = enes l
theorem enes_cons (r : Nat) (l : List Nat) : enes (r :: l) = enc r ++ enes l := by simp [enes]
theorem enes_app (a b : List Nat) : enes (a ++ b) = enes a ++ enes b := by simp [enes]
theorem Valid.nil : Valid [] := ⟨[], by simp, rfl⟩
theorem Valid.app {a b : Bytes} : Valid a → Valid b → Valid (a ++ b) := by
  rintro ⟨l, hl, rfl⟩ ⟨m, hm, rfl⟩
  exact ⟨l ++ m, fun r h => by rcases List.mem_append.1 h with h | h; exact hl r h; exact hm r h, (enes_app l m).symm⟩
theorem Valid.enc {r : Nat} (h : isRune r = true) : Valid (enc r) := ⟨[r], by simpa using h, by simp [enes]⟩
theorem Valid.ascii : ∀ {l : Bytes}, (∀ c ∈ l, c.toNat < 128) → Valid l
  | [], _ => .nil
  | c :: t, h => by
    have hc := h c (by simp)
    have h1 : Pl.enc c.toNat = [c] := by rw [enc_ascii hc]; simp
    have h2 : isRune c.toNat = true := by simp [isRune]; omega
    have := (Valid.enc h2).app (Valid.ascii (l := t) (fun d hd => h d (by simp [hd])))
    rw [h1] at this
    exact this
theorem digit_ascii {b : Nat} (hb : b ≤ 16) {c : UInt8} (h : digit c.toNat < b) : c.toNat < 128 := by
  unfold digit at h
  split at h
  · rename_i h1; simp at h1; omega
  · split at h
    · rename_i h1; simp at h1; omega
    · split at h
      · rename_i h1; simp at h1; omega
      · omega
theorem numF_ascii {b : Nat} (hb : b ≤ 16) : ∀ (s : Bytes) (n m : Nat), numF b n s = some m → ∀ c ∈ s, c.toNat < 128 := by
  intro s
  induction s with
  | nil => intro n m _ c hc; simp at hc
  | cons d t ih =>
    intro n m h c hc
    rw [numF] at h
    split at h
    · cases h
    · rename_i h1
      simp only [Bool.or_eq_true, decide_eq_true_eq, not_or, ge_iff_le, Nat.not_le] at h1
      rcases List.mem_cons.1 hc with rfl | hc
      · exact digit_ascii hb (by omega)
      · exact ih _ _ h c hc
theorem countB_ascii {b : Nat} (hb : b ≤ 16) {x : Bytes} (h : countB b x ≠ 0) : ∀ c ∈ x, c.toNat < 128 := by
  unfold countB at h
  cases hn : numGet b x with
  | none => rw [hn] at h; exact absurd rfl h
  | some n =>
    unfold numGet at hn
    split at hn
    · cases hn
    · exact numF_ascii hb x 0 n hn
theorem refVal_ascii {b : Bytes} (h : refVal b ≠ 0) : ∀ c ∈ b, c.toNat < 128 := by
  unfold refVal at h
  split at h
  · rename_i x
    intro c hc
    rcases List.mem_cons.1 hc with rfl | hc
    · decide
    · unfold counted at h
      split at h
      · rename_i t
        rcases List.mem_cons.1 hc with rfl | hc
        · decide
        · exact countB_ascii (by omega) h c hc
      · exact countB_ascii (by omega) h c hc
  · unfold named at h
    intro c hc
    repeat' (split at h)
    all_goals (first | (subst_vars; simp at hc; rcases hc with rfl | rfl | rfl | rfl <;> decide) | (subst_vars; simp at hc; rcases hc with rfl | rfl | rfl <;> decide) | (subst_vars; simp at hc; rcases hc with rfl | rfl <;> decide) | exact absurd rfl h)
theorem take_span (p : UInt8 → Bool) (s : Bytes) (h : (s.takeWhile p).length ≠ s.length) : ∃ d u, s = s.takeWhile p ++ d :: u ∧ p d = false := by
  induction s with
  | nil => exact absurd rfl h
  | cons c t ih =>
    by_cases hp : p c = true
    · rw [List.takeWhile_cons_of_pos hp] at h ⊢
      obtain ⟨d, u, h1, h2⟩ := ih (by simpa using h)
      exact ⟨d, u, by simpa using h1, h2⟩
    · rw [List.takeWhile_cons_of_neg hp]
      exact ⟨c, t, rfl, by simpa using hp⟩
theorem ref_valid {s : Bytes} {q n : Nat} (h : ref s = some (q, n)) : Valid (s.take n) := by
  unfold ref at h
  split at h
  · rename_i body
    simp only at h
    split at h
    · cases h
    · rename_i h1
      simp only [Bool.or_eq_true, decide_eq_true_eq, beq_iff_eq, not_or] at h1
      split at h
      · cases h
      · rename_i h2
        injection h with h; injection h with h3 h4
        obtain ⟨d, u, e1, e2⟩ := take_span _ body h1.2
        have hd : d = 59 := by simpa using e2
        subst hd
        have hv := refVal_ascii (b := body.takeWhile (· != (59 : UInt8))) (by simpa using h2)
        obtain ⟨b, hb⟩ : ∃ b, b = body.takeWhile (· != (59 : UInt8)) := ⟨_, rfl⟩
        rw [← hb] at hv e1 h4
        rw [e1, ← h4, List.take_succ_cons, List.take_append, List.take_of_length_le (by omega), show b.length + 1 - b.length = 1 by omega]
        refine Valid.ascii (fun c hc => ?_)
        simp only [List.take_succ_cons, List.take_zero, List.mem_cons, List.mem_append, List.not_mem_nil, or_false] at hc
        rcases hc with rfl | hc | rfl
        · decide
        · exact hv c hc
        · decide
  · cases h
theorem one_valid {s o : Bytes} {n : Nat} (h : one s = .ok (o, n)) : Valid (s.take n) := by
  unfold one at h
  split at h
  · cases h
  · rename_i r m hd
    obtain ⟨hr, hm, u, hu⟩ := dec_some hd
    split at h
    · cases h
    · split at h
      · split at h
        · cases h
        · rename_i q k hk
          injection h with h; injection h with h1 h2
          rw [← h2]; exact ref_valid hk
      · split at h
        · rename_i h13
          split at h
          · rename_i h2
            injection h with h; injection h with h3 h4
            rw [← h4, h2]
            exact Valid.ascii (by decide)
          · injection h with h; injection h with h3 h4
            have h13' : r = 13 := by simpa using h13
            subst h13'
            have e1 : (enc 13 ++ u).take 1 = [13] := rfl
            rw [← h4, hu, e1]
            exact Valid.ascii (by decide)
        · injection h with h; injection h with h1 h2
          rw [← h2, hu, hm, List.take_left]
          exact Valid.enc hr
theorem get_valid : ∀ (k : Nat) (s v : Bytes), s.length ≤ k → get s = .ok v → Valid s := by
  intro k
  induction k with
  | zero =>
    intro s v h _
    have : s = [] := List.length_eq_zero_iff.1 (by omega)
    subst this; exact .nil
  | succ k ih =>
    intro s v h hg
    by_cases h0 : s = []
    · subst h0; exact .nil
    · cases ho : one s with
      | error e => rw [get_err h0 ho] at hg; cases hg
      | ok p =>
        obtain ⟨o, n⟩ := p
        have h1 := one_ok ho
        rw [get_ok ho] at hg
        cases hk : get (s.drop n) with
        | error e => rw [hk] at hg; cases hg
        | ok t =>
          have := (one_valid ho).app (ih (s.drop n) t (by simp; omega) hk)
          rwa [List.take_append_drop] at this

/-! lines of runes are runes; strings.Map over them -/
theorem lines_cons {c : UInt8} (h : c ≠ 13) (t : Bytes) : lines (c :: t) = c :: lines t := by
  cases t with
  | nil => simp [lines, h]
  | cons d u => simp [lines, h]
theorem lines_high : ∀ (a t : Bytes), (∀ c ∈ a, c ≠ 13) → lines (a ++ t) = a ++ lines t
  | [], _, _ => rfl
  | c :: a, t, h => by
    rw [List.cons_append, lines_cons (h c (by simp)), lines_high a t (fun d hd => h d (by simp [hd]))]; rfl
theorem enc_lt {r : Nat} (h : isRune r = true) : r ≤ 0x10ffff := by simp [isRune] at h; omega
theorem enc_no13 {r : Nat} (hr : isRune r = true) (h : r ≠ 13) : ∀ c ∈ enc r, c ≠ 13 := by
  intro c hc e
  subst e
  by_cases h1 : r < 128
  · rw [enc_ascii h1] at hc
    simp only [List.mem_singleton] at hc
    have := congrArg UInt8.toNat hc
    rw [u8 r (by omega)] at this
    exact h this.symm
  · have := enc_high (by omega) (enc_lt hr) _ hc
    exact absurd this (by decide)
theorem lines_valid : ∀ (k : Nat) (l : List Nat), l.length ≤ k → (∀ r ∈ l, isRune r = true) → Valid (lines (enes l)) := by
  intro k
  induction k with
  | zero =>
    intro l h _
    have : l = [] := List.length_eq_zero_iff.1 (by omega)
    subst this; exact .nil
  | succ k ih =>
    intro l h hl
    match l, h, hl with
    | [], _, _ => exact .nil
    | r :: l, h, hl =>
      have hr := hl r (by simp)
      have ht := ih l (by simp at h; omega) (fun x hx => hl x (by simp [hx]))
      rw [enes_cons]
      by_cases h13 : r = 13
      · subst h13
        have e1 : enc 13 = [13] := by decide
        rw [e1]
        cases l with
        | nil => exact Valid.ascii (by decide)
        | cons q m =>
          rw [enes_cons]
          by_cases hq : q = 10
          · subst hq
            have e2 : enc 10 = [10] := by decide
            rw [e2]
            have h3 := ih m (by simp at h; omega) (fun x hx => hl x (by simp [hx]))
            show Valid (lines (13 :: 10 :: enes m))
            rw [lines, if_pos (by rfl), if_pos (by rfl)]
            exact (Valid.ascii (l := [10]) (by decide)).app h3
          · rw [enes_cons] at ht
            have hp := enc_pos q
            cases he : enc q with
            | nil => rw [he] at hp; simp at hp
            | cons d u =>
              rw [he] at ht
              have hd : d ≠ 10 := by
                intro e
                subst e
                by_cases h1 : q < 128
                · rw [enc_ascii h1] at he
                  injection he with he _
                  have := congrArg UInt8.toNat he
                  rw [u8 q (by omega)] at this
                  exact hq this
                · have := enc_high (by omega) (enc_lt (hl q (by simp))) (10 : UInt8) (by rw [he]; simp)
                  exact absurd this (by decide)
              show Valid (lines (13 :: d :: (u ++ enes m)))
              rw [lines, if_pos (by rfl), if_neg (by simpa using hd)]
              exact (Valid.ascii (l := [10]) (by decide)).app ht
      · rw [lines_high _ _ (enc_no13 hr h13)]
        exact (Valid.enc hr).app ht
def flatR (x : Int) : Int := if x = 9 ∨ x = 10 then 32 else x
theorem decodeL_enc {r : Nat} (hr : isRune r = true) (t : Bytes) : Go.Lib.decodeL (enc r ++ t) = (r, (enc r).length) := decode_enc (enc r ++ t) t 0 r hr rfl
theorem encodeRune_enc {r : Nat} (hr : isRune r = true) : Go.Lib.encodeRune (r : Int) = enc r := by
  have h1 : isRune r = true := hr
  simp [isRune] at h1
  unfold Go.Lib.encodeRune Go.Lib.encodeRuneZ enc
  by_cases a : r < 0x80
  · rw [if_pos (by omega), if_pos a]; simp
  · rw [if_neg (by omega), if_neg a]
    by_cases b : r < 0x800
    · rw [if_pos (by omega), if_pos b]
      simp only [List.map_cons, List.map_nil]
      rw [show (192 + (r : Int) / 64).toNat = 0xc0 + r / 64 by omega, show (128 + (r : Int) % 64).toNat = 0x80 + r % 64 by omega]
    · rw [if_neg (by omega), if_neg b]
      by_cases c : r < 0x10000
      · rw [if_pos (by omega), if_pos c]
        simp only [List.map_cons, List.map_nil]
        rw [show (224 + (r : Int) / 4096).toNat = 0xe0 + r / 4096 by omega, show (128 + (r : Int) / 64 % 64).toNat = 0x80 + r / 64 % 64 by omega, show (128 + (r : Int) % 64).toNat = 0x80 + r % 64 by omega]
      · rw [if_neg (by omega), if_neg c, if_pos (by omega)]
        simp only [List.map_cons, List.map_nil]
        rw [show (240 + (r : Int) / 262144).toNat = 0xf0 + r / 262144 by omega, show (128 + (r : Int) / 4096 % 64).toNat = 0x80 + r / 4096 % 64 by omega, show (128 + (r : Int) / 64 % 64).toNat = 0x80 + r / 64 % 64 by omega, show (128 + (r : Int) % 64).toNat = 0x80 + r % 64 by omega]
theorem flat_enc {r : Nat} (hr : isRune r = true) : Go.Lib.encodeRune (flatR r) = (enc r).map flatB := by
  unfold flatR
  by_cases h : (r : Int) = 9 ∨ (r : Int) = 10
  · rw [if_pos h]
    have : r = 9 ∨ r = 10 := by omega
    rcases this with rfl | rfl <;> decide
  · rw [if_neg h, encodeRune_enc hr]
    conv => lhs; rw [← List.map_id (enc r)]
    apply List.map_congr_left
    intro c hc
    unfold flatB
    rw [if_neg]
    · rfl
    · simp only [Bool.or_eq_true, beq_iff_eq, not_or]
      by_cases h1 : r < 128
      · rw [enc_ascii h1] at hc
        simp only [List.mem_singleton] at hc
        subst hc
        constructor
        · intro e; have := congrArg UInt8.toNat e; rw [u8 r (by omega)] at this; exact h (.inl (by rw [this]; rfl))
        · intro e; have := congrArg UInt8.toNat e; rw [u8 r (by omega)] at this; exact h (.inr (by rw [this]; rfl))
      · have := enc_high (by omega) (enc_lt hr) c hc
        constructor <;> (intro e; subst e; revert this; decide)
theorem map_flat (s : Bytes) (hs : Valid s) : Go.Lib.mapD flatR s = s.map flatB := by
  obtain ⟨l, hl, rfl⟩ := hs
  induction l with
  | nil => rfl
  | cons r l ih =>
    have hr := hl r (by simp)
    rw [enes_cons, Go.Lib.mapD_step _ _ (by have := enc_pos r; intro e; have := congrArg List.length e; rw [List.length_append] at this; simp only [List.length_nil] at this; omega), decodeL_enc hr]
    have h0 : 0 ≤ flatR (r : Int) := by unfold flatR; split <;> omega
    simp only
    rw [if_pos h0, flat_enc hr, List.drop_left, ih (fun x hx => hl x (by simp [hx]))]
    simp
theorem flat_valid {s v : Bytes} (h : get s = .ok v) : Go.Lib.mapD flatR (lines s) = flat s := by
  obtain ⟨l, hl, rfl⟩ := get_valid _ s v (Nat.le_refl _) h
  exact map_flat _ (lines_valid _ l (Nat.le_refl _) hl)
end Pl
