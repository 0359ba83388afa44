/- Plain laws of bytes, runes, numbers, escapes and tokens, as functions on lists of bytes. -/

set_option linter.unusedVariables false
set_option linter.unusedSimpArgs false
/- Plain words: bytes of runes. -/
namespace Pl

/-- a rune's bytes -/
def enc (r : Nat) : List UInt8 :=
  if r < 0x80 then [r.toUInt8]
  else if r < 0x800 then [(0xc0 + r / 64).toUInt8, (0x80 + r % 64).toUInt8]
  else if r < 0x10000 then [(0xe0 + r / 4096).toUInt8, (0x80 + r / 64 % 64).toUInt8, (0x80 + r % 64).toUInt8]
  else [(0xf0 + r / 262144).toUInt8, (0x80 + r / 4096 % 64).toUInt8, (0x80 + r / 64 % 64).toUInt8, (0x80 + r % 64).toUInt8]

def isRune (r : Nat) : Bool := r ≤ 0xd7ff || (0xe000 ≤ r && r ≤ 0x10ffff)

/-- what a first byte says: how many follow, its digits -/
def head (c : Nat) : Option (Nat × Nat) :=
  if c < 0x80 then some (0, c) else if c < 0xc0 then none else if c < 0xe0 then some (1, c - 0xc0)
  else if c < 0xf0 then some (2, c - 0xe0) else if c < 0xf8 then some (3, c - 0xf0) else none

/-- the digits that follow -/
def conts : Nat → List UInt8 → Option Nat
  | r, [] => some r
  | r, c :: t => if c.toNat / 64 = 2 then conts (r * 64 + c.toNat % 64) t else none

/-- the rune that bytes begin with, and how many bytes it has -/
def dec (s : List UInt8) : Option (Nat × Nat) :=
  match s with
  | [] => none
  | c :: t =>
    match head c.toNat with
    | none => none
    | some (m, r) =>
      if t.length < m then none
      else match conts r (t.take m) with
        | none => none
        | some r => if isRune r && (enc r).length == m + 1 then some (r, m + 1) else none

theorem u8 (n : Nat) (h : n < 256) : (n.toUInt8).toNat = n := by
  simp [Nat.toUInt8]; omega

theorem enc_length (r : Nat) : (enc r).length = if r < 0x80 then 1 else if r < 0x800 then 2 else if r < 0x10000 then 3 else 4 := by
  unfold enc; (repeat' split) <;> rfl

theorem enc_pos (r : Nat) : 0 < (enc r).length := by rw [enc_length]; (repeat' split) <;> omega
theorem enc_le (r : Nat) : (enc r).length ≤ 4 := by rw [enc_length]; (repeat' split) <;> omega

theorem dec_enc (r : Nat) (h : isRune r = true) (t : List UInt8) : dec (enc r ++ t) = some (r, (enc r).length) := by
  have hr : r ≤ 0x10ffff := by simp [isRune] at h; omega
  unfold enc
  split
  · rename_i h1
    simp only [List.cons_append, List.nil_append, dec, head, u8 r (by omega), h1, if_true]
    simp [conts, h, enc, h1]
  · split
    · rename_i h1 h2
      have e1 : (0xc0 + r / 64).toUInt8.toNat = 0xc0 + r / 64 := u8 _ (by omega)
      have e2 : (0x80 + r % 64).toUInt8.toNat = 0x80 + r % 64 := u8 _ (by omega)
      have hh : head (0xc0 + r / 64) = some (1, r / 64) := by
        unfold head; rw [if_neg (by omega), if_neg (by omega), if_pos (by omega)]; rw [show 0xc0 + r / 64 - 0xc0 = r / 64 by omega]
      simp only [List.cons_append, List.nil_append, dec, e1, hh]
      rw [if_neg (by simp)]
      simp only [List.take_succ_cons, List.take_zero, conts, e2]
      rw [if_pos (by omega), show r / 64 * 64 + (0x80 + r % 64) % 64 = r by omega]
      simp [h, enc, h1, h2]
    · split
      · rename_i h1 h2 h3
        have e1 : (0xe0 + r / 4096).toUInt8.toNat = 0xe0 + r / 4096 := u8 _ (by omega)
        have e2 : (0x80 + r / 64 % 64).toUInt8.toNat = 0x80 + r / 64 % 64 := u8 _ (by omega)
        have e3 : (0x80 + r % 64).toUInt8.toNat = 0x80 + r % 64 := u8 _ (by omega)
        have hh : head (0xe0 + r / 4096) = some (2, r / 4096) := by
          unfold head; rw [if_neg (by omega), if_neg (by omega), if_neg (by omega), if_pos (by omega)]; rw [show 0xe0 + r / 4096 - 0xe0 = r / 4096 by omega]
        simp only [List.cons_append, List.nil_append, dec, e1, hh]
        rw [if_neg (by simp)]
        simp only [List.take_succ_cons, List.take_zero, conts, e2, e3]
        rw [if_pos (by omega), if_pos (by omega), show (r / 4096 * 64 + (0x80 + r / 64 % 64) % 64) * 64 + (0x80 + r % 64) % 64 = r by omega]
        simp [h, enc, h1, h2, h3]
      · rename_i h1 h2 h3
        have e1 : (0xf0 + r / 262144).toUInt8.toNat = 0xf0 + r / 262144 := u8 _ (by omega)
        have e2 : (0x80 + r / 4096 % 64).toUInt8.toNat = 0x80 + r / 4096 % 64 := u8 _ (by omega)
        have e3 : (0x80 + r / 64 % 64).toUInt8.toNat = 0x80 + r / 64 % 64 := u8 _ (by omega)
        have e4 : (0x80 + r % 64).toUInt8.toNat = 0x80 + r % 64 := u8 _ (by omega)
        have hh : head (0xf0 + r / 262144) = some (3, r / 262144) := by
          unfold head; rw [if_neg (by omega), if_neg (by omega), if_neg (by omega), if_neg (by omega), if_pos (by omega)]; rw [show 0xf0 + r / 262144 - 0xf0 = r / 262144 by omega]
        simp only [List.cons_append, List.nil_append, dec, e1, hh]
        rw [if_neg (by simp)]
        simp only [List.take_succ_cons, List.take_zero, conts, e2, e3, e4]
        rw [if_pos (by omega), if_pos (by omega), if_pos (by omega), show ((r / 262144 * 64 + (0x80 + r / 4096 % 64) % 64) * 64 + (0x80 + r / 64 % 64) % 64) * 64 + (0x80 + r % 64) % 64 = r by omega]
        simp [h, enc, h1, h2, h3]

theorem u8_eq {c : UInt8} {n : Nat} (h : c.toNat = n) : c = n.toUInt8 := by
  apply UInt8.toNat_inj.1
  rw [u8 n (by have := c.toNat_lt; omega)]; exact h

theorem dec_some {s : List UInt8} {r n : Nat} (h : dec s = some (r, n)) : isRune r = true ∧ n = (enc r).length ∧ ∃ t, s = enc r ++ t := by
  cases s with
  | nil => simp [dec] at h
  | cons c t =>
    simp only [dec] at h
    have hc := c.toNat_lt
    cases hh : head c.toNat with
    | none => rw [hh] at h; simp at h
    | some p =>
      obtain ⟨m, d⟩ := p
      rw [hh] at h
      simp only at h
      split at h
      · cases h
      · rename_i hl
        cases hk : conts d (t.take m) with
        | none => rw [hk] at h; simp at h
        | some q =>
          rw [hk] at h
          simp only at h
          split at h
          · rename_i hq
            simp only [Option.some.injEq, Prod.mk.injEq] at h
            obtain ⟨rfl, rfl⟩ := h
            simp only [Bool.and_eq_true, beq_iff_eq] at hq
            refine ⟨hq.1, hq.2.symm, t.drop m, ?_⟩
            have hlen := enc_length q
            rw [hq.2] at hlen
            unfold head at hh
            split at hh
            · rename_i h0
              simp only [Option.some.injEq, Prod.mk.injEq] at hh
              obtain ⟨rfl, rfl⟩ := hh
              simp only [List.take_zero, conts, Option.some.injEq] at hk
              subst hk
              simp [enc, h0]
            · split at hh
              · cases hh
              · split at hh
                · rename_i h0 h1 h2
                  simp only [Option.some.injEq, Prod.mk.injEq] at hh
                  obtain ⟨rfl, rfl⟩ := hh
                  match t, hl, hk with
                  | c1 :: t, hl, hk =>
                    have g1 := c1.toNat_lt
                    simp only [List.take_succ_cons, List.take_zero, conts] at hk
                    split at hk
                    · simp only [Option.some.injEq] at hk
                      have hq1 : ¬ q < 0x80 := by intro hx; simp [hx] at hlen
                      have hq2 : q < 0x800 := by omega
                      unfold enc
                      rw [if_neg hq1, if_pos hq2]
                      simp only [List.cons_append, List.nil_append, List.drop_succ_cons, List.drop_zero]
                      rw [u8_eq (c := c) (n := 0xc0 + q / 64) (by omega), u8_eq (c := c1) (n := 0x80 + q % 64) (by omega)]
                    · cases hk
                  | [], hl, hk => simp at hl
                · split at hh
                  · rename_i h0 h1 h2 h3
                    simp only [Option.some.injEq, Prod.mk.injEq] at hh
                    obtain ⟨rfl, rfl⟩ := hh
                    match t, hl, hk with
                    | c1 :: c2 :: t, hl, hk =>
                      have g1 := c1.toNat_lt
                      have g2 := c2.toNat_lt
                      simp only [List.take_succ_cons, List.take_zero, conts] at hk
                      split at hk
                      · split at hk
                        · simp only [Option.some.injEq] at hk
                          have hq1 : ¬ q < 0x80 := by intro hx; simp [hx] at hlen
                          have hq2 : ¬ q < 0x800 := by intro hx; simp [hx, hq1] at hlen
                          have hq3 : q < 0x10000 := by omega
                          unfold enc
                          rw [if_neg hq1, if_neg hq2, if_pos hq3]
                          simp only [List.cons_append, List.nil_append, List.drop_succ_cons, List.drop_zero]
                          rw [u8_eq (c := c) (n := 0xe0 + q / 4096) (by omega), u8_eq (c := c1) (n := 0x80 + q / 64 % 64) (by omega), u8_eq (c := c2) (n := 0x80 + q % 64) (by omega)]
                        · cases hk
                      · cases hk
                    | [_], hl, hk => simp at hl
                    | [], hl, hk => simp at hl
                  · split at hh
                    · rename_i h0 h1 h2 h3 h4
                      simp only [Option.some.injEq, Prod.mk.injEq] at hh
                      obtain ⟨rfl, rfl⟩ := hh
                      match t, hl, hk with
                      | c1 :: c2 :: c3 :: t, hl, hk =>
                        have g1 := c1.toNat_lt
                        have g2 := c2.toNat_lt
                        have g3 := c3.toNat_lt
                        simp only [List.take_succ_cons, List.take_zero, conts] at hk
                        split at hk
                        · split at hk
                          · split at hk
                            · simp only [Option.some.injEq] at hk
                              have hq1 : ¬ q < 0x80 := by intro hx; simp [hx] at hlen
                              have hq2 : ¬ q < 0x800 := by intro hx; simp [hx, hq1] at hlen
                              have hq3 : ¬ q < 0x10000 := by intro hx; simp [hx, hq1, hq2] at hlen
                              unfold enc
                              rw [if_neg hq1, if_neg hq2, if_neg hq3]
                              simp only [List.cons_append, List.nil_append, List.drop_succ_cons, List.drop_zero]
                              rw [u8_eq (c := c) (n := 0xf0 + q / 262144) (by omega), u8_eq (c := c1) (n := 0x80 + q / 4096 % 64) (by omega), u8_eq (c := c2) (n := 0x80 + q / 64 % 64) (by omega), u8_eq (c := c3) (n := 0x80 + q % 64) (by omega)]
                            · cases hk
                          · cases hk
                        · cases hk
                      | [_, _], hl, hk => simp at hl
                      | [_], hl, hk => simp at hl
                      | [], hl, hk => simp at hl
                    · cases hh
          · cases h

end Pl

/- The plain meaning of utf, num, escape, token: functions on lists of bytes. -/
namespace Pl
abbrev Bytes := List UInt8

def isChar (r : Nat) : Bool :=
  (9 ≤ r && r ≤ 10) || (13 ≤ r && r ≤ 13) || (0x20 ≤ r && r ≤ 0xd7ff) || (0xe000 ≤ r && r ≤ 0xfffd) || (0x10000 ≤ r && r ≤ 0x10ffff)
def isFirst (r : Nat) : Bool :=
  (58 ≤ r && r ≤ 58) || (65 ≤ r && r ≤ 90) || (95 ≤ r && r ≤ 95) || (97 ≤ r && r ≤ 122) || (0xc0 ≤ r && r ≤ 0xd6) || (0xd8 ≤ r && r ≤ 0xf6) ||
  (0xf8 ≤ r && r ≤ 0x2ff) || (0x370 ≤ r && r ≤ 0x37d) || (0x37f ≤ r && r ≤ 0x1fff) || (0x200c ≤ r && r ≤ 0x200d) || (0x2070 ≤ r && r ≤ 0x218f) ||
  (0x2c00 ≤ r && r ≤ 0x2fef) || (0x3001 ≤ r && r ≤ 0xd7ff) || (0xf900 ≤ r && r ≤ 0xfdcf) || (0xfdf0 ≤ r && r ≤ 0xfffd) || (0x10000 ≤ r && r ≤ 0xeffff)
def isFurther (r : Nat) : Bool :=
  (45 ≤ r && r ≤ 46) || (48 ≤ r && r ≤ 57) || (0xb7 ≤ r && r ≤ 0xb7) || (0x300 ≤ r && r ≤ 0x36f) || (0x203f ≤ r && r ≤ 0x2040)
def isOther (r : Nat) : Bool := isFirst r || isFurther r
def isBlank (r : Nat) : Bool := r == 32 || r == 9 || r == 13 || r == 10
def blankB (c : UInt8) : Bool := isBlank c.toNat

/-- a text's runes -/
def runesF : Nat → Bytes → List Nat × Bytes
  | 0, s => ([], s)
  | k + 1, s => match dec s with
    | none => ([], s)
    | some (r, n) => let p := runesF k (s.drop n); (r :: p.1, p.2)
def runes (s : Bytes) : List Nat × Bytes := runesF s.length s
def isText (s : Bytes) : Bool := (runes s).2.isEmpty && (runes s).1.all isChar

/-! numbers -/
def digit (c : Nat) : Nat := if 48 ≤ c && c ≤ 57 then c - 48 else if 97 ≤ c && c ≤ 102 then c - 87 else if 65 ≤ c && c ≤ 70 then c - 55 else 99
def numF (base : Nat) : Nat → Bytes → Option Nat
  | n, [] => some n
  | n, c :: t => let d := digit c.toNat; if d ≥ base || n > (18446744073709551615 - d) / base then none else numF base (n * base + d) t
def numGet (base : Nat) (s : Bytes) : Option Nat := if s.isEmpty then none else numF base 0 s

/-! escapes -/
def esc (c : UInt8) : Bytes :=
  match c.toNat with
  | 38 => [38, 97, 109, 112, 59]
  | 60 => [38, 108, 116, 59]
  | 62 => [38, 103, 116, 59]
  | 34 => [38, 113, 117, 111, 116, 59]
  | 9 => [38, 35, 57, 59]
  | 10 => [38, 35, 49, 48, 59]
  | 13 => [38, 35, 49, 51, 59]
  | _ => [c]
def escs (s : Bytes) : Bytes := s.flatMap esc
def put (s : Bytes) : Option Bytes := if isText s then some (escs s) else none
def escaped (s : Bytes) : Bytes := (put s).getD []

def named (s : Bytes) : Nat :=
  if s = [97, 109, 112] then 38 else if s = [108, 116] then 60 else if s = [103, 116] then 62 else if s = [113, 117, 111, 116] then 34 else if s = [97, 112, 111, 115] then 39 else 0
/-- digits behind '#' -/
def countB (base : Nat) (x : Bytes) : Nat :=
  match numGet base x with
  | none => 0
  | some n => if x.length > 8 || !isChar n then 0 else n
def counted (x : Bytes) : Nat := match x with | 120 :: t => countB 16 t | _ => countB 10 x
def refVal (b : Bytes) : Nat := match b with | 35 :: x => counted x | _ => named b
def ref (s : Bytes) : Option (Nat × Nat) :=
  match s with
  | 38 :: body =>
    let b := body.takeWhile (· != 59)
    if b.length < 1 || b.length > 11 || b.length == body.length then none
    else if refVal b == 0 then none else some (refVal b, b.length + 2)
  | _ => none

/-- one rune or reference: what it stands for, how many bytes; or what is wrong -/
def one (s : Bytes) : Except Int (Bytes × Nat) :=
  match dec s with
  | none => .error 20
  | some (r, n) =>
    if r == 60 || !isChar r then .error 40
    else if r == 38 then match ref s with
      | none => .error 40
      | some (q, k) => .ok (enc q, k)
    else if r == 13 then (if s.take 2 = [13, 10] then .ok ([10], 2) else .ok ([10], 1))
    else .ok (enc r, n)
def getF : Nat → Bytes → Except (Nat × Int) Bytes
  | 0, _ => .ok []
  | k + 1, s => if s.isEmpty then .ok [] else
    match one s with
    | .error e => .error (0, e)
    | .ok (o, n) => match getF k (s.drop n) with
      | .error (p, e) => .error (n + p, e)
      | .ok t => .ok (o ++ t)
def get (s : Bytes) : Except (Nat × Int) Bytes := getF s.length s

def lines : Bytes → Bytes
  | [] => []
  | [c] => if c == 13 then [10] else [c]
  | c :: d :: t => if c == 13 then (if d == 10 then 10 :: lines t else 10 :: lines (d :: t)) else c :: lines (d :: t)
def flatB (c : UInt8) : UInt8 := if c == 9 || c == 10 then 32 else c
def flat (s : Bytes) : Bytes := (lines s).map flatB

/-! tokens -/
structure Tok where
  kind : Int
  name : Bytes
  attrs : List (Bytes × Bytes)
  text : Bytes
  deriving DecidableEq, Repr

inductive R (α : Type) where
  | ok (a : α) (rest : Bytes)
  | bad (why : Int) (left : Nat)
  deriving DecidableEq, Repr

def nameLenF : Nat → Bool → Bytes → Nat
  | 0, _, _ => 0
  | k + 1, first, s => match dec s with
    | none => 0
    | some (r, n) => if isFirst r || (!first && isOther r) then n + nameLenF k false (s.drop n) else 0
def nameLen (s : Bytes) : Nat := nameLenF s.length true s
def nameP (s : Bytes) : R Bytes :=
  let n := nameLen s
  if n == 0 || n > 400 then .bad 50 s.length else .ok (s.take n) (s.drop n)
def blanks (s : Bytes) : Bytes := s.dropWhile blankB
def mustP (c : UInt8) (s : Bytes) : R Unit :=
  match s with
  | d :: t => if d == c then .ok () t else .bad 50 s.length
  | [] => .bad 50 0
def valueP (s : Bytes) : R Bytes :=
  match s with
  | [] => .bad 50 0
  | q :: t =>
    if q == 34 || q == 39 then
      let raw := t.takeWhile (· != q)
      match get raw with
      | .error (p, e) => .bad e (t.length - p)
      | .ok _ =>
        if raw.length == t.length then .bad 50 0
        else match get (flat raw) with
          | .error _ => .ok [] (t.drop (raw.length + 1))
          | .ok v => .ok v (t.drop (raw.length + 1))
    else .bad 50 s.length
def attrP (s : Bytes) (l : List (Bytes × Bytes)) : R (List (Bytes × Bytes)) :=
  match nameP s with
  | .bad e n => .bad e n
  | .ok name s1 =>
    if l.length == 20 then .bad 50 s.length
    else if l.any (fun a => a.1 == name) then .bad 51 s.length
    else match mustP 61 (blanks s1) with
      | .bad e n => .bad e n
      | .ok _ s3 => match valueP (blanks s3) with
        | .bad e n => .bad e n
        | .ok v s4 => .ok (l ++ [(name, v)]) s4
def attrsF : Nat → Bytes → List (Bytes × Bytes) → R (List (Bytes × Bytes))
  | 0, s, l => .ok l s
  | k + 1, s, l =>
    let s1 := blanks s
    if s1.length == s.length then .ok l s
    else match s1 with
      | [] => .ok l s1
      | c :: _ => if c == 62 || c == 47 then .ok l s1 else
        match attrP s1 l with
        | .bad e n => .bad e n
        | .ok l' s2 => attrsF k s2 l'
def attrsP (s : Bytes) : R (List (Bytes × Bytes)) := attrsF (s.length + 1) s []
def endsP (s : Bytes) : R Int :=
  match s with
  | 47 :: t => (match mustP 62 t with | .bad e n => .bad e n | .ok _ r => .ok 3 r)
  | _ => (match mustP 62 s with | .bad e n => .bad e n | .ok _ r => .ok 1 r)
def closeP (s : Bytes) : R Tok :=
  match nameP s with
  | .bad e n => .bad e n
  | .ok name s1 => match mustP 62 (blanks s1) with
    | .bad e n => .bad e n
    | .ok _ r => .ok ⟨2, name, [], []⟩ r
def openP (s : Bytes) : R Tok :=
  match nameP s with
  | .bad e n => .bad e n
  | .ok name s1 => match attrsP s1 with
    | .bad e n => .bad e n
    | .ok l s2 => match endsP s2 with
      | .bad e n => .bad e n
      | .ok k r => .ok ⟨k, name, l, []⟩ r
def textP (s : Bytes) : R Tok :=
  let raw := s.takeWhile (· != 60)
  match get raw with
  | .error (p, e) => .bad e (s.length - p)
  | .ok t => .ok ⟨4, [], [], t⟩ (s.drop raw.length)
def tokP (s : Bytes) : R Tok :=
  match s with
  | [] => .bad 10 0
  | 60 :: 47 :: t => closeP t
  | 60 :: t => openP t
  | _ => textP s
def tok0 : Tok := ⟨0, [], [], []⟩
/-- Next: token, size, place, error -/
def next (s : Bytes) : Tok × Nat × Nat × Int :=
  match tokP s with
  | .ok x r => (x, s.length - r.length, 0, 0)
  | .bad e n => (tok0, 0, s.length - n, e)
def allF : Nat → Bytes → Except (Nat × Int) (List Tok)
  | 0, _ => .ok []
  | k + 1, s => if s.isEmpty then .ok [] else
    match tokP s with
    | .bad e n => .error (s.length - n, e)
    | .ok x r => match allF k r with
      | .error (p, e) => .error (s.length - r.length + p, e)
      | .ok l => .ok (x :: l)
def all (s : Bytes) : Except (Nat × Int) (List Tok) := allF s.length s

def writeA (l : List (Bytes × Bytes)) : Bytes := l.flatMap fun a => [32] ++ a.1 ++ [61, 34] ++ escaped a.2 ++ [34]
def write (x : Tok) : Bytes :=
  if x.kind = 4 then escaped x.text
  else if x.kind = 2 then [60, 47] ++ x.name ++ [62]
  else if x.kind = 1 then [60] ++ x.name ++ writeA x.attrs ++ [62]
  else if x.kind = 3 then [60] ++ x.name ++ writeA x.attrs ++ [47, 62]
  else []
def putT (x : Tok) : Option Bytes :=
  if tokP (write x) = .ok x [] then some (write x) else none

def B (s : String) : Bytes := s.toUTF8.data.toList
end Pl

/- Plain laws: what is told again. -/
namespace Pl

theorem dec_ext {s : Bytes} {r n : Nat} (h : dec s = some (r, n)) (t : Bytes) : dec (s ++ t) = some (r, n) := by
  obtain ⟨hr, rfl, u, rfl⟩ := dec_some h
  rw [List.append_assoc]; exact dec_enc r hr _
theorem dec_len {s : Bytes} {r n : Nat} (h : dec s = some (r, n)) : 0 < n ∧ n ≤ s.length := by
  obtain ⟨hr, rfl, u, rfl⟩ := dec_some h
  exact ⟨enc_pos r, by simp⟩
theorem dec_take {s : Bytes} {r n : Nat} (h : dec s = some (r, n)) : s.take n = enc r := by
  obtain ⟨hr, rfl, u, rfl⟩ := dec_some h
  simp
theorem dec_ascii {c : UInt8} (h : c.toNat < 128) (t : Bytes) : dec (c :: t) = some (c.toNat, 1) := by
  have := dec_enc c.toNat (by simp [isRune]; omega) t
  have e : enc c.toNat = [c] := by unfold enc; rw [if_pos h, ← u8_eq (c := c) rfl]
  rw [e] at this; simpa using this
theorem enc_ascii {r : Nat} (h : r < 128) : enc r = [r.toUInt8] := by unfold enc; rw [if_pos h]
theorem isChar_isRune {r : Nat} (h : isChar r = true) : isRune r = true := by
  simp [isChar] at h; simp [isRune]; omega

/-! names -/
theorem nameLenF_le (k : Nat) : ∀ f s, nameLenF k f s ≤ s.length := by
  induction k with
  | zero => intro f s; simp [nameLenF]
  | succ k ih =>
    intro f s
    unfold nameLenF
    cases h : dec s with
    | none => simp
    | some p =>
      obtain ⟨r, n⟩ := p
      simp only
      split
      · have := ih false (s.drop n)
        have h1 := dec_len h
        simp at this; omega
      · omega

/-- a name, and what follows it begins with a byte that is no name's -/
theorem nameLenF_put (k : Nat) : ∀ k' f (s t : Bytes) (c : UInt8), s.length ≤ k → (s.take (nameLenF k f s) ++ c :: t).length ≤ k' → c.toNat < 128 → isOther c.toNat = false →
    nameLenF k' f (s.take (nameLenF k f s) ++ c :: t) = nameLenF k f s := by
  induction k with
  | zero =>
    intro k' f s t c hs hk hc ho
    obtain ⟨k', rfl⟩ : ∃ m, k' = m + 1 := ⟨k' - 1, by simp at hk; omega⟩
    have hf : isFirst c.toNat = false := by simp [isOther] at ho; exact ho.1
    simp [nameLenF, dec_ascii hc, ho, hf]
  | succ k ih =>
    intro k' f s t c hs hk hc ho
    obtain ⟨k', rfl⟩ : ∃ m, k' = m + 1 := ⟨k' - 1, by simp at hk; omega⟩
    have hf : isFirst c.toNat = false := by simp [isOther] at ho; exact ho.1
    have base : nameLenF (k' + 1) f (c :: t) = 0 := by simp [nameLenF, dec_ascii hc, ho, hf]
    cases h : dec s with
    | none =>
      have e : nameLenF (k + 1) f s = 0 := by simp [nameLenF, h]
      rw [e]; simpa using base
    | some p =>
      obtain ⟨r, n⟩ := p
      by_cases hq : (isFirst r || (!f && isOther r)) = true
      · have e : nameLenF (k + 1) f s = n + nameLenF k false (s.drop n) := by simp only [nameLenF, h]; rw [if_pos hq]
        have h1 := dec_len h
        rw [e] at hk ⊢
        have e2 : s.take (n + nameLenF k false (s.drop n)) ++ c :: t = enc r ++ ((s.drop n).take (nameLenF k false (s.drop n)) ++ c :: t) := by
          rw [List.take_add, List.append_assoc, dec_take h]
        obtain ⟨hr, hn, u, hu⟩ := dec_some h
        rw [e2] at hk ⊢
        have i := ih k' false (s.drop n) t c (by simp; omega) (by simp at hk ⊢; omega) hc ho
        rw [show ∀ z, nameLenF (k' + 1) f z = (match dec z with
          | none => 0
          | some (r, n) => if isFirst r || (!f && isOther r) then n + nameLenF k' false (z.drop n) else 0) from fun _ => rfl]
        rw [dec_enc r hr]
        simp only
        rw [if_pos hq, ← hn]
        have e3 : List.drop n (enc r ++ ((s.drop n).take (nameLenF k false (s.drop n)) ++ c :: t)) = (s.drop n).take (nameLenF k false (s.drop n)) ++ c :: t := by
          rw [hn]; simp
        rw [e3, i]
      · have e : nameLenF (k + 1) f s = 0 := by simp only [nameLenF, h]; rw [if_neg hq]
        rw [e]; simpa using base

theorem nameP_ok {s nm r : Bytes} (h : nameP s = .ok nm r) : s = nm ++ r ∧ nm ≠ [] ∧ nm.length ≤ 400 ∧ nm = s.take (nameLen s) := by
  unfold nameP at h
  simp only at h
  split at h
  · cases h
  · rename_i hh
    simp at hh
    injection h with h1 h2
    have hl := nameLenF_le s.length true s
    have hl' : nameLen s ≤ s.length := hl
    refine ⟨by rw [← h1, ← h2]; simp, ?_, ?_, h1.symm⟩
    · rw [← h1]; intro e
      have : (s.take (nameLen s)).length = 0 := by rw [e]; rfl
      rw [List.length_take] at this; omega
    · rw [← h1, List.length_take]; omega

theorem nameP_put {s nm r : Bytes} (h : nameP s = .ok nm r) (t : Bytes) (c : UInt8) (hc : c.toNat < 128) (ho : isOther c.toNat = false) : nameP (nm ++ c :: t) = .ok nm (c :: t) := by
  obtain ⟨h1, h2, h3, h4⟩ := nameP_ok h
  have e : nameLen (nm ++ c :: t) = nm.length := by
    have := nameLenF_put s.length (nm ++ c :: t).length true s t c (Nat.le_refl _) (by rw [h4]; exact Nat.le_refl _) hc ho
    unfold nameLen
    have hl := nameLenF_le s.length true s
    have e2 : nm.length = nameLenF s.length true s := by rw [h4, List.length_take, Nat.min_eq_left]; rfl; exact hl
    rw [e2, ← this, h4]; rfl
  unfold nameP
  simp only [e]
  have : 0 < nm.length := List.length_pos_iff.2 h2
  have hn0 : (nm.length == 0) = false := by rw [beq_eq_false_iff_ne]; omega
  rw [if_neg (by rw [hn0]; simp; omega)]
  simp

/-- more text behind a name that is over: nothing turns -/
theorem nameP_stop {s nm r : Bytes} {c : UInt8} (h : nameP s = .ok nm (c :: r)) (hc : c.toNat < 128) : isOther c.toNat = false := by
  have key : ∀ k f (s : Bytes) (c : UInt8) (r : Bytes), s.length ≤ k → s.drop (nameLenF k f s) = c :: r → c.toNat < 128 → nameLenF k f s ≠ 0 ∨ f = false → isOther c.toNat = false := by
    intro k
    induction k with
    | zero => intro f s c r hs hd _; have : s = [] := List.length_eq_zero_iff.1 (by omega); subst this; simp at hd
    | succ k ih =>
      intro f s c r hs hd hc hne
      cases h : dec s with
      | none =>
        have e : nameLenF (k + 1) f s = 0 := by simp [nameLenF, h]
        rw [e] at hd
        simp only [List.drop_zero] at hd
        rw [hd, dec_ascii hc] at h; cases h
      | some p =>
        obtain ⟨q, n⟩ := p
        by_cases hq : (isFirst q || (!f && isOther q)) = true
        · have e : nameLenF (k + 1) f s = n + nameLenF k false (s.drop n) := by simp only [nameLenF, h]; rw [if_pos hq]
          have h1 := dec_len h
          rw [e, ← List.drop_drop] at hd
          exact ih false (s.drop n) c r (by simp; omega) hd hc (.inr rfl)
        · have e : nameLenF (k + 1) f s = 0 := by simp only [nameLenF, h]; rw [if_neg hq]
          rw [e] at hd hne
          simp only [List.drop_zero] at hd
          have hf : f = false := by simpa using hne
          rw [hd, dec_ascii hc] at h
          injection h with h; injection h with h1 h2
          subst h1
          simp [hf] at hq
          exact hq.2
  unfold nameP at h
  simp only at h
  split at h
  · cases h
  · rename_i hh
    simp at hh
    injection h with h1 h2
    exact key s.length true s c r (Nat.le_refl _) h2 hc (.inl hh.1)

theorem nameP_ext {s nm r : Bytes} {c : UInt8} (h : nameP s = .ok nm (c :: r)) (hc : c.toNat < 128) (t : Bytes) : nameP (s ++ t) = .ok nm (c :: r ++ t) := by
  have h1 := (nameP_ok h).1
  have := nameP_put h (r ++ t) c hc (nameP_stop h hc)
  rw [h1]; simpa using this

/-! blanks, signs -/
theorem blanks_ext {s : Bytes} (h : blanks s ≠ []) (t : Bytes) : blanks (s ++ t) = blanks s ++ t := by
  unfold blanks at *
  induction s with
  | nil => simp at h
  | cons c s ih =>
    simp only [List.cons_append, List.dropWhile_cons] at *
    split
    · rename_i hb; rw [if_pos hb] at h; exact ih h
    · rfl
theorem blanks_le (s : Bytes) : (blanks s).length ≤ s.length := by
  unfold blanks; exact (List.dropWhile_suffix _).length_le
theorem blanks_same {s : Bytes} (h : (blanks s).length = s.length) : blanks s = s :=
  (List.dropWhile_suffix _).eq_of_length h
theorem blanks_head {s : Bytes} {c : UInt8} {r : Bytes} (h : blanks s = c :: r) : blankB c = false := by
  unfold blanks at h
  have := List.head?_dropWhile_not blankB s
  rw [h] at this; simpa using this
theorem blanks_idem {s : Bytes} : blanks (blanks s) = blanks s := by
  cases h : blanks s with
  | nil => rfl
  | cons c r => unfold blanks; rw [List.dropWhile_cons, blanks_head h]; simp
theorem blanks_first {s : Bytes} {c : UInt8} {r : Bytes} (h : blanks s = c :: r) (hc : c.toNat < 128) : ∃ d u, s = d :: u ∧ d.toNat < 128 := by
  cases s with
  | nil => simp [blanks] at h
  | cons d u =>
    refine ⟨d, u, rfl, ?_⟩
    unfold blanks at h
    rw [List.dropWhile_cons] at h
    split at h
    · rename_i hb; simp [blankB, isBlank] at hb; omega
    · injection h with h1 h2; rw [h1]; exact hc

theorem mustP_ok {c : UInt8} {s r : Bytes} {u : Unit} (h : mustP c s = .ok u r) : s = c :: r := by
  unfold mustP at h
  cases s with
  | nil => cases h
  | cons d t =>
    simp only at h
    split at h
    · rename_i hd; injection h with h1 h2; simp at hd; rw [hd, h2]
    · cases h
theorem mustP_put (c : UInt8) (r : Bytes) : mustP c (c :: r) = .ok () r := by simp [mustP]
theorem mustP_ext {c : UInt8} {s r : Bytes} {u : Unit} (h : mustP c s = .ok u r) (t : Bytes) : mustP c (s ++ t) = .ok () (r ++ t) := by
  rw [mustP_ok h]; simp [mustP]

theorem takeWhile_ext {p : UInt8 → Bool} {s : Bytes} (h : (s.takeWhile p).length ≠ s.length) (t : Bytes) : (s ++ t).takeWhile p = s.takeWhile p := by
  induction s with
  | nil => simp at h
  | cons c s ih =>
    simp only [List.cons_append, List.takeWhile_cons] at *
    split
    · rename_i hp; rw [if_pos hp] at h; rw [ih (by simpa using h)]
    · rfl

theorem valueP_ext {s v r : Bytes} (h : valueP s = .ok v r) (t : Bytes) : valueP (s ++ t) = .ok v (r ++ t) := by
  unfold valueP at *
  cases s with
  | nil => cases h
  | cons q u =>
    simp only [List.cons_append] at *
    split at h
    · rename_i hq
      rw [if_pos hq]
      cases hg : get (u.takeWhile (· != q)) with
      | error p => rw [hg] at h; cases h
      | ok g =>
        rw [hg] at h
        simp only at h
        split at h
        · cases h
        · rename_i hl
          have hl' : (u.takeWhile (· != q)).length ≠ u.length := by simpa using hl
          have hle : (u.takeWhile (· != q)).length < u.length := by
            have := (List.takeWhile_prefix (· != q) (l := u)).length_le; omega
          rw [takeWhile_ext hl', hg]
          simp only
          rw [if_neg (by simp; omega), List.drop_append_of_le_length (by omega)]
          cases hg2 : get (flat (u.takeWhile (· != q))) with
          | error p => rw [hg2] at h; simp only at h ⊢; injection h with h1 h2; rw [← h1, ← h2]
          | ok g2 => rw [hg2] at h; simp only at h ⊢; injection h with h1 h2; rw [← h1, ← h2]
    · cases h
theorem valueP_lt {s v r : Bytes} (h : valueP s = .ok v r) : r.length < s.length := by
  unfold valueP at h
  cases s with
  | nil => cases h
  | cons q u =>
    simp only at h
    split at h
    · cases hg : get (u.takeWhile (· != q)) with
      | error p => rw [hg] at h; cases h
      | ok g =>
        rw [hg] at h
        simp only at h
        split at h
        · cases h
        · cases hg2 : get (flat (u.takeWhile (· != q))) with
          | error p => rw [hg2] at h; simp only at h; injection h with h1 h2; rw [← h2]; simp; omega
          | ok g2 => rw [hg2] at h; simp only at h; injection h with h1 h2; rw [← h2]; simp; omega
    · cases h

/-- what an attribute is made of -/
theorem attrP_ok {s r : Bytes} {l l' : List (Bytes × Bytes)} (h : attrP s l = .ok l' r) :
    ∃ name s1 s3 v, nameP s = .ok name s1 ∧ l.length ≠ 20 ∧ l.any (fun a => a.1 == name) = false ∧ blanks s1 = 61 :: s3 ∧ valueP (blanks s3) = .ok v r ∧ l' = l ++ [(name, v)] := by
  unfold attrP at h
  cases hn : nameP s with
  | bad e n => rw [hn] at h; cases h
  | ok name s1 =>
    rw [hn] at h
    simp only at h
    split at h
    · cases h
    · rename_i h20
      split at h
      · cases h
      · rename_i hany
        cases hm : mustP 61 (blanks s1) with
        | bad e n => rw [hm] at h; cases h
        | ok u s3 =>
          rw [hm] at h
          simp only at h
          cases hv : valueP (blanks s3) with
          | bad e n => rw [hv] at h; cases h
          | ok v s4 =>
            rw [hv] at h
            simp only at h
            injection h with h1 h2
            subst h2
            exact ⟨name, s1, s3, v, rfl, by simpa using h20, Bool.eq_false_iff.2 hany, mustP_ok hm, hv, h1.symm⟩
theorem attrP_mk {s name s1 s3 v r : Bytes} {l : List (Bytes × Bytes)} (hn : nameP s = .ok name s1) (h20 : l.length ≠ 20) (hany : l.any (fun a => a.1 == name) = false)
    (hb : blanks s1 = 61 :: s3) (hv : valueP (blanks s3) = .ok v r) : attrP s l = .ok (l ++ [(name, v)]) r := by
  unfold attrP
  rw [hn]
  simp only
  rw [if_neg (by simpa using h20), if_neg (by simp [hany]), hb, mustP_put]
  simp only
  rw [hv]
theorem attrP_lt {s r : Bytes} {l l' : List (Bytes × Bytes)} (h : attrP s l = .ok l' r) : r.length < s.length := by
  obtain ⟨name, s1, s3, v, h1, _, _, h4, h5, _⟩ := attrP_ok h
  have a := (nameP_ok h1).1
  have b := blanks_le s1
  have c := blanks_le s3
  have d := valueP_lt h5
  have e : s.length = name.length + s1.length := by rw [a]; simp
  have f : (blanks s1).length = s3.length + 1 := by rw [h4]; simp
  omega
theorem attrP_first {s r : Bytes} {l l' : List (Bytes × Bytes)} (h : attrP s l = .ok l' r) : s ≠ [] := by
  intro e; have := attrP_lt h; rw [e] at this; simp at this
theorem valueP_ne {s v r : Bytes} (h : valueP s = .ok v r) : s ≠ [] := by
  intro e; rw [e] at h; simp [valueP] at h
theorem attrP_ext {s r : Bytes} {l l' : List (Bytes × Bytes)} (h : attrP s l = .ok l' r) (t : Bytes) : attrP (s ++ t) l = .ok l' (r ++ t) := by
  obtain ⟨name, s1, s3, v, h1, h2, h3, h4, h5, rfl⟩ := attrP_ok h
  obtain ⟨d, u, rfl, hd⟩ := blanks_first h4 (by decide)
  have e1 := nameP_ext h1 hd t
  have e4 : blanks (d :: u ++ t) = 61 :: (s3 ++ t) := by rw [blanks_ext (by rw [h4]; simp), h4]; rfl
  have e5 : valueP (blanks (s3 ++ t)) = .ok v (r ++ t) := by rw [blanks_ext (valueP_ne h5)]; exact valueP_ext h5 t
  exact attrP_mk e1 h2 h3 e4 e5

/-! all attributes -/
theorem attrsF_fuel (k : Nat) : ∀ k' s l, s.length < k → s.length < k' → attrsF k s l = attrsF k' s l := by
  induction k with
  | zero => intro k' s l h; omega
  | succ k ih =>
    intro k' s l h h'
    obtain ⟨k', rfl⟩ : ∃ m, k' = m + 1 := ⟨k' - 1, by omega⟩
    have hb := blanks_le s
    simp only [attrsF]
    split
    · rfl
    · rename_i hne
      have hne' : (blanks s).length ≠ s.length := by simpa using hne
      cases hs : blanks s with
      | nil => rfl
      | cons c u =>
        simp only
        split
        · rfl
        · cases ha : attrP (c :: u) l with
          | bad e n => rfl
          | ok l' s2 =>
            simp only
            have := attrP_lt ha
            rw [hs] at hb hne'
            simp only [List.length_cons] at *
            exact ih k' s2 l' (by omega) (by omega)
theorem attrsF_ext (k : Nat) : ∀ s l l' r t, s.length < k → attrsF k s l = .ok l' r → r ≠ [] → attrsF (k + t.length) (s ++ t) l = .ok l' (r ++ t) := by
  induction k with
  | zero => intro s l l' r t h; omega
  | succ k ih =>
    intro s l l' r t h hs hr
    have hb := blanks_le s
    rw [show k + 1 + t.length = k + t.length + 1 by omega]
    simp only [attrsF] at hs ⊢
    by_cases hne : ((blanks s).length == s.length) = true
    · rw [if_pos hne] at hs
      injection hs with h1 h2
      subst h1; subst h2
      have hbs := blanks_same (by simpa using hne)
      rw [blanks_ext (by rw [hbs]; exact hr), hbs, if_pos (by simp)]
    · rw [if_neg hne] at hs
      have hne' : (blanks s).length ≠ s.length := by simpa using hne
      cases hc : blanks s with
      | nil => rw [hc] at hs; simp only at hs; injection hs with h1 h2; exact absurd h2.symm hr
      | cons c u =>
        rw [hc] at hs
        rw [blanks_ext (by rw [hc]; simp), hc]
        have hlen : ¬ (((c :: u ++ t).length == (s ++ t).length) = true) := by rw [hc] at hne'; simp at hne' ⊢; omega
        rw [if_neg hlen]
        simp only [List.cons_append] at *
        split at hs
        · rename_i h6
          rw [if_pos h6]
          injection hs with h1 h2
          rw [← h1, ← h2]; rfl
        · rename_i h6
          rw [if_neg h6]
          cases ha : attrP (c :: u) l with
          | bad e n => rw [ha] at hs; cases hs
          | ok l2 s2 =>
            rw [ha] at hs
            simp only at hs
            have e := attrP_ext ha t
            rw [List.cons_append] at e
            rw [e]
            simp only
            have := attrP_lt ha
            rw [hc] at hb hne'
            simp only [List.length_cons] at *
            exact ih s2 l2 l' r t (by omega) hs hr
theorem attrsP_ext {s r : Bytes} {l : List (Bytes × Bytes)} (h : attrsP s = .ok l r) (hr : r ≠ []) (t : Bytes) : attrsP (s ++ t) = .ok l (r ++ t) := by
  unfold attrsP at *
  have := attrsF_ext (s.length + 1) s [] l r t (by omega) h hr
  rw [← this]
  congr 1; simp; omega
theorem endsP_ok {s r : Bytes} {k : Int} (h : endsP s = .ok k r) : (s = 47 :: 62 :: r ∧ k = 3) ∨ (s = 62 :: r ∧ k = 1) := by
  unfold endsP at h
  split at h
  · rename_i t
    cases hm : mustP 62 t with
    | bad e n => rw [hm] at h; cases h
    | ok u r' => rw [hm] at h; simp only at h; injection h with h1 h2; left; rw [mustP_ok hm, h2]; exact ⟨rfl, h1.symm⟩
  · cases hm : mustP 62 s with
    | bad e n => rw [hm] at h; cases h
    | ok u r' => rw [hm] at h; simp only at h; injection h with h1 h2; right; rw [mustP_ok hm, h2]; exact ⟨rfl, h1.symm⟩
theorem endsP_3 (r : Bytes) : endsP (47 :: 62 :: r) = .ok 3 r := by simp [endsP, mustP]
theorem endsP_1 (r : Bytes) : endsP (62 :: r) = .ok 1 r := by simp [endsP, mustP]
theorem endsP_ext {s r : Bytes} {k : Int} (h : endsP s = .ok k r) (t : Bytes) : endsP (s ++ t) = .ok k (r ++ t) := by
  rcases endsP_ok h with ⟨rfl, rfl⟩ | ⟨rfl, rfl⟩
  · exact endsP_3 _
  · exact endsP_1 _
theorem endsP_ne {s r : Bytes} {k : Int} (h : endsP s = .ok k r) : ∃ c u, s = c :: u ∧ c.toNat < 128 := by
  rcases endsP_ok h with ⟨rfl, rfl⟩ | ⟨rfl, rfl⟩
  · exact ⟨_, _, rfl, by decide⟩
  · exact ⟨_, _, rfl, by decide⟩

theorem attrsP_first {s r : Bytes} {l : List (Bytes × Bytes)} {c : UInt8} (h : attrsP s = .ok l (c :: r)) (hc : c.toNat < 128) : ∃ d u, s = d :: u ∧ d.toNat < 128 := by
  unfold attrsP at h
  simp only [attrsF] at h
  split at h
  · injection h with h1 h2; exact ⟨c, r, h2, hc⟩
  · rename_i hne
    have hne' : (blanks s).length ≠ s.length := by simpa using hne
    cases s with
    | nil => simp [blanks] at hne'
    | cons d u =>
      refine ⟨d, u, rfl, ?_⟩
      unfold blanks at hne'
      rw [List.dropWhile_cons] at hne'
      split at hne'
      · rename_i hb; simp [blankB, isBlank] at hb; omega
      · simp at hne'

theorem openP_ok {s r : Bytes} {x : Tok} (h : openP s = .ok x r) :
    ∃ name s1 l s2 k, nameP s = .ok name s1 ∧ attrsP s1 = .ok l s2 ∧ endsP s2 = .ok k r ∧ x = ⟨k, name, l, []⟩ := by
  unfold openP at h
  cases hn : nameP s with
  | bad e n => rw [hn] at h; cases h
  | ok name s1 =>
    rw [hn] at h
    simp only at h
    cases ha : attrsP s1 with
    | bad e n => rw [ha] at h; cases h
    | ok l s2 =>
      rw [ha] at h
      simp only at h
      cases he : endsP s2 with
      | bad e n => rw [he] at h; cases h
      | ok k r' =>
        rw [he] at h
        simp only at h
        injection h with h1 h2
        subst h2
        exact ⟨name, s1, l, s2, k, rfl, ha, he, h1.symm⟩
theorem openP_mk {s name s1 s2 r : Bytes} {l : List (Bytes × Bytes)} {k : Int} (h1 : nameP s = .ok name s1) (h2 : attrsP s1 = .ok l s2) (h3 : endsP s2 = .ok k r) :
    openP s = .ok ⟨k, name, l, []⟩ r := by
  unfold openP; rw [h1]; simp only; rw [h2]; simp only; rw [h3]
theorem openP_ext {s r : Bytes} {x : Tok} (h : openP s = .ok x r) (t : Bytes) : openP (s ++ t) = .ok x (r ++ t) := by
  obtain ⟨name, s1, l, s2, k, h1, h2, h3, rfl⟩ := openP_ok h
  obtain ⟨c, u, rfl, hc⟩ := endsP_ne h3
  obtain ⟨d, v, rfl, hd⟩ := attrsP_first h2 hc
  exact openP_mk (nameP_ext h1 hd t) (attrsP_ext h2 (by simp) t) (endsP_ext h3 t)
theorem closeP_ok {s r : Bytes} {x : Tok} (h : closeP s = .ok x r) : ∃ name s1, nameP s = .ok name s1 ∧ blanks s1 = 62 :: r ∧ x = ⟨2, name, [], []⟩ := by
  unfold closeP at h
  cases hn : nameP s with
  | bad e n => rw [hn] at h; cases h
  | ok name s1 =>
    rw [hn] at h
    simp only at h
    cases hm : mustP 62 (blanks s1) with
    | bad e n => rw [hm] at h; cases h
    | ok u r' => rw [hm] at h; simp only at h; injection h with h1 h2; subst h2; exact ⟨name, s1, rfl, mustP_ok hm, h1.symm⟩
theorem closeP_mk {s name s1 r : Bytes} (h1 : nameP s = .ok name s1) (h2 : blanks s1 = 62 :: r) : closeP s = .ok ⟨2, name, [], []⟩ r := by
  unfold closeP; rw [h1]; simp only; rw [h2, mustP_put]
theorem closeP_ext {s r : Bytes} {x : Tok} (h : closeP s = .ok x r) (t : Bytes) : closeP (s ++ t) = .ok x (r ++ t) := by
  obtain ⟨name, s1, h1, h2, rfl⟩ := closeP_ok h
  obtain ⟨d, u, rfl, hd⟩ := blanks_first h2 (by decide)
  exact closeP_mk (nameP_ext h1 hd t) (by rw [blanks_ext (by rw [h2]; simp), h2]; rfl)
theorem textP_ok {s r : Bytes} {x : Tok} (h : textP s = .ok x r) : ∃ t, get (s.takeWhile (· != 60)) = .ok t ∧ r = s.drop (s.takeWhile (· != 60)).length ∧ x = ⟨4, [], [], t⟩ := by
  unfold textP at h
  simp only at h
  cases hg : get (s.takeWhile (· != 60)) with
  | error p => rw [hg] at h; cases h
  | ok t => rw [hg] at h; simp only at h; injection h with h1 h2; exact ⟨t, rfl, h2.symm, h1.symm⟩
theorem textP_mk {s t : Bytes} (h : get (s.takeWhile (· != 60)) = .ok t) : textP s = .ok ⟨4, [], [], t⟩ (s.drop (s.takeWhile (· != 60)).length) := by
  unfold textP; simp only; rw [h]
theorem drop_takeWhile (s : Bytes) (p : UInt8 → Bool) : s.drop (s.takeWhile p).length = s.dropWhile p := by
  induction s with
  | nil => rfl
  | cons c s ih => simp only [List.takeWhile_cons, List.dropWhile_cons]; split <;> simp [ih]
theorem takeWhile_all_ext {s : Bytes} (h : (s.takeWhile (· != (60 : UInt8))).length = s.length) (t : Bytes) : (s ++ 60 :: t).takeWhile (· != 60) = s.takeWhile (· != 60) := by
  have e : s.takeWhile (· != (60 : UInt8)) = s := (List.takeWhile_prefix _).eq_of_length h
  rw [List.takeWhile_append_of_pos]
  · rw [List.takeWhile_cons]; simp [e]
  · intro a ha; rw [← e] at ha; exact List.all_eq_true.1 (List.all_takeWhile (p := (· != (60 : UInt8))) (l := s)) a ha
theorem textP_ext {s r : Bytes} {x : Tok} (h : textP s = .ok x r) (t : Bytes) (hc : r ≠ [] ∨ t = [] ∨ ∃ t', t = 60 :: t') : textP (s ++ t) = .ok x (r ++ t) := by
  obtain ⟨v, hg, hr, rfl⟩ := textP_ok h
  rcases hc with hc | rfl | ⟨t', rfl⟩
  · have hl : (s.takeWhile (· != (60 : UInt8))).length ≠ s.length := by
      intro e; rw [e] at hr; simp at hr; exact hc hr
    have hle := (List.takeWhile_prefix (· != (60 : UInt8)) (l := s)).length_le
    have := textP_mk (s := s ++ t) (t := v) (by rw [takeWhile_ext hl]; exact hg)
    rw [this, takeWhile_ext hl, List.drop_append_of_le_length hle, ← hr]
  · simpa using h
  · by_cases hl : (s.takeWhile (· != (60 : UInt8))).length = s.length
    · have := textP_mk (s := s ++ 60 :: t') (t := v) (by rw [takeWhile_all_ext hl]; exact hg)
      rw [this, takeWhile_all_ext hl, List.drop_append_of_le_length (by omega), ← hr]
    · have hle := (List.takeWhile_prefix (· != (60 : UInt8)) (l := s)).length_le
      have := textP_mk (s := s ++ 60 :: t') (t := v) (by rw [takeWhile_ext hl]; exact hg)
      rw [this, takeWhile_ext hl, List.drop_append_of_le_length hle, ← hr]

theorem tokP_open {t : Bytes} (h : ∀ u, t ≠ 47 :: u) : tokP (60 :: t) = openP t := by
  unfold tokP
  split
  · rename_i heq; cases heq
  · rename_i u heq; injection heq with _ heq; exact absurd heq (h u)
  · rename_i u heq; injection heq with _ heq; subst heq; rfl
  · rename_i h3 h4; exact absurd rfl (h4 t)
theorem tokP_text {s : Bytes} (h0 : s ≠ []) (h : ∀ u, s ≠ 60 :: u) : tokP s = textP s := by
  unfold tokP
  split
  · exact absurd rfl h0
  · rename_i u; exact absurd rfl (h _)
  · rename_i u; exact absurd rfl (h _)
  · rfl
theorem tokP_ext {s r : Bytes} {x : Tok} (h : tokP s = .ok x r) (t : Bytes) (hc : x.kind = 4 → r ≠ [] ∨ t = [] ∨ ∃ t', t = 60 :: t') : tokP (s ++ t) = .ok x (r ++ t) := by
  match s, h with
  | [], h => cases h
  | 60 :: 47 :: u, h => exact closeP_ext (s := u) h t
  | [60], h => simp [tokP, openP, nameP, nameLen, nameLenF] at h
  | c :: u, h =>
    by_cases h60 : c = 60
    · subst h60
      by_cases h47 : ∃ v, u = 47 :: v
      · obtain ⟨v, rfl⟩ := h47; exact closeP_ext (s := v) h t
      · have hn : ∀ v, u ≠ 47 :: v := fun v e => h47 ⟨v, e⟩
        rw [tokP_open hn] at h
        rw [List.cons_append, tokP_open]
        · exact openP_ext h t
        · intro v e
          cases u with
          | nil => simp [openP, nameP, nameLen, nameLenF] at h
          | cons d u => injection e with e1 e2; exact hn u (by rw [e1])
    · have ht : ∀ (a : Bytes) v, c :: a ≠ 60 :: v := fun a v e => by injection e with e1 e2; exact h60 e1
      rw [tokP_text (by simp) (ht u)] at h
      rw [List.cons_append, tokP_text (by simp) (ht (u ++ t))]
      have hk : x.kind = 4 := by obtain ⟨_, _, _, rfl⟩ := textP_ok h; rfl
      exact textP_ext h t (hc hk)

theorem tokP_lt {s r : Bytes} {x : Tok} (h : tokP s = .ok x r) : r.length < s.length := by
  match s, h with
  | [], h => cases h
  | c :: u, h =>
    by_cases h60 : c = 60
    · subst h60
      by_cases h47 : ∃ v, u = 47 :: v
      · obtain ⟨v, rfl⟩ := h47
        obtain ⟨name, s1, h1, h2, rfl⟩ := closeP_ok (s := v) h
        have a := (nameP_ok h1).1
        have b := blanks_le s1
        rw [h2] at b
        simp only [List.length_cons] at b ⊢
        rw [a]; simp; omega
      · have hn : ∀ v, u ≠ 47 :: v := fun v e => h47 ⟨v, e⟩
        rw [tokP_open hn] at h
        obtain ⟨name, s1, l, s2, k, h1, h2, h3, rfl⟩ := openP_ok h
        have a := (nameP_ok h1).1
        have key : ∀ k s l l' r, s.length < k → attrsF k s l = .ok l' r → r.length ≤ s.length := by
          intro k
          induction k with
          | zero => intro s l l' r h; omega
          | succ k ih =>
            intro s l l' r hk hh
            have hb := blanks_le s
            simp only [attrsF] at hh
            split at hh
            · injection hh with _ e; rw [← e]; exact Nat.le_refl _
            · rename_i hne
              cases hcc : blanks s with
              | nil => rw [hcc] at hh; simp only at hh; injection hh with _ e; rw [← e]; simp
              | cons c u =>
                rw [hcc] at hh hne hb
                simp only at hh
                split at hh
                · injection hh with _ e; rw [← e]; exact hb
                · cases ha : attrP (c :: u) l with
                  | bad e n => rw [ha] at hh; cases hh
                  | ok l2 s2 =>
                    rw [ha] at hh
                    simp only at hh
                    have := attrP_lt ha
                    have := ih s2 l2 l' r (by omega) hh
                    omega
        have b := key _ _ _ _ _ (Nat.lt_succ_self _) h2
        have e : r.length < s2.length := by
          rcases endsP_ok h3 with ⟨rfl, rfl⟩ | ⟨rfl, rfl⟩ <;> simp <;> omega
        rw [a]; simp; omega
    · have ht : ∀ (a : Bytes) v, c :: a ≠ 60 :: v := fun a v e => by injection e with e1 e2; exact h60 e1
      rw [tokP_text (by simp) (ht u)] at h
      obtain ⟨v, hg, hr, rfl⟩ := textP_ok h
      rw [hr, List.takeWhile_cons, if_pos (by simpa using h60)]
      simp; omega

/-- TokenBack, plainly. -/
theorem back {x : Tok} {a : Bytes} (h : putT x = some a) (t : Bytes) : tokP (a ++ 60 :: t) = .ok x (60 :: t) := by
  unfold putT at h
  split at h
  · rename_i hp
    injection h with h
    subst h
    have := tokP_ext hp (60 :: t) (fun _ => .inr (.inr ⟨t, rfl⟩))
    simpa using this
  · cases h
theorem putT_ne {x : Tok} {a : Bytes} (h : putT x = some a) : a ≠ [] := by
  unfold putT at h
  split at h
  · rename_i hp; injection h with h; subst h; intro e; rw [e] at hp; cases hp
  · cases h
end Pl

/- Plain laws: escapes. -/
namespace Pl

def enes (l : List Nat) : Bytes := l.flatMap enc

theorem runesF_enes (l : List Nat) : ∀ k, (enes l).length ≤ k → (∀ r ∈ l, isRune r = true) → runesF k (enes l) = (l, []) := by
  induction l with
  | nil => intro k _ _; cases k <;> rfl
  | cons r l ih =>
    intro k hk hr
    have hp := enc_pos r
    have e : enes (r :: l) = enc r ++ enes l := rfl
    rw [e] at hk ⊢
    obtain ⟨k, rfl⟩ : ∃ m, k = m + 1 := ⟨k - 1, by simp at hk; omega⟩
    unfold runesF
    rw [dec_enc r (hr r (by simp))]
    simp only
    rw [show List.drop (enc r).length (enc r ++ enes l) = enes l by simp, ih k (by simp at hk; omega) (fun q hq => hr q (by simp [hq]))]
theorem runesF_ok (k : Nat) : ∀ s, s.length ≤ k → s = enes (runesF k s).1 ++ (runesF k s).2 ∧ (∀ r ∈ (runesF k s).1, isRune r = true) := by
  induction k with
  | zero => intro s h; simp [runesF, enes]
  | succ k ih =>
    intro s h
    unfold runesF
    cases hd : dec s with
    | none => simp [enes]
    | some p =>
      obtain ⟨r, n⟩ := p
      simp only
      have h1 := dec_len hd
      obtain ⟨i1, i2⟩ := ih (s.drop n) (by simp; omega)
      have ht := dec_take hd
      refine ⟨?_, ?_⟩
      · conv => lhs; rw [← List.take_append_drop n s, ht]
        rw [show enes (r :: (runesF k (s.drop n)).1) = enc r ++ enes (runesF k (s.drop n)).1 from rfl, List.append_assoc, ← i1]
      · intro q hq
        simp only [List.mem_cons] at hq
        rcases hq with rfl | hq
        · exact (dec_some hd).1
        · exact i2 q hq
theorem isText_iff (s : Bytes) : isText s = true ↔ ∃ l : List Nat, (∀ r ∈ l, isChar r = true) ∧ s = enes l := by
  constructor
  · intro h
    simp only [isText, Bool.and_eq_true, List.all_eq_true] at h
    obtain ⟨h1, h2⟩ := h
    have := (runesF_ok s.length s (Nat.le_refl _)).1
    refine ⟨(runes s).1, h2, ?_⟩
    have e : (runesF s.length s).2 = [] := List.isEmpty_iff.1 h1
    rw [e, List.append_nil] at this
    exact this
  · rintro ⟨l, hl, rfl⟩
    have := runesF_enes l (enes l).length (Nat.le_refl _) (fun r hr => isChar_isRune (hl r hr))
    simp only [isText, runes, this, Bool.and_eq_true, List.all_eq_true]
    exact ⟨rfl, hl⟩
theorem isText_nil : isText [] = true := rfl
theorem isText_app {r : Nat} (hr : isChar r = true) {s : Bytes} (h : isText s = true) : isText (enc r ++ s) = true := by
  obtain ⟨l, hl, rfl⟩ := (isText_iff s).1 h
  exact (isText_iff _).2 ⟨r :: l, by intro q hq; simp only [List.mem_cons] at hq; rcases hq with rfl | hq; exact hr; exact hl q hq, rfl⟩

/-! one piece -/
theorem named_char (s : Bytes) : named s ≠ 0 → isChar (named s) = true := by
  unfold named; (repeat' split) <;> first | (intro _; decide) | (intro h; exact absurd rfl h)
theorem countB_char (k : Nat) (s : Bytes) : countB k s ≠ 0 → isChar (countB k s) = true := by
  unfold countB
  cases numGet k s with
  | none => intro h; exact absurd rfl h
  | some n =>
    simp only
    by_cases hh : (decide (s.length > 8) || !isChar n) = true
    · rw [if_pos hh]; intro h; exact absurd rfl h
    · rw [if_neg hh]; intro _; simp at hh; exact hh.2
theorem counted_char (s : Bytes) : counted s ≠ 0 → isChar (counted s) = true := by
  unfold counted
  split
  · exact countB_char _ _
  · exact countB_char _ _
theorem refVal_char (s : Bytes) : refVal s ≠ 0 → isChar (refVal s) = true := by
  unfold refVal
  split
  · exact counted_char _
  · exact named_char _
theorem ref_ok {s : Bytes} {q n : Nat} (h : ref s = some (q, n)) : isChar q = true ∧ 3 ≤ n ∧ n ≤ s.length := by
  unfold ref at h
  split at h
  · rename_i body
    simp only at h
    split at h
    · cases h
    · rename_i h1
      simp only [Bool.or_eq_true, decide_eq_true_eq, beq_iff_eq, not_or] at h1
      have hle := (List.takeWhile_prefix (· != (59 : UInt8)) (l := body)).length_le
      split at h
      · cases h
      · rename_i h2
        injection h with h; injection h with h3 h4
        refine ⟨?_, by omega, by simp only [List.length_cons]; omega⟩
        rw [← h3]
        exact refVal_char _ (by simpa using h2)
  · cases h
theorem one_ok {s o : Bytes} {n : Nat} (h : one s = .ok (o, n)) : 0 < n ∧ n ≤ s.length ∧ ∃ r, isChar r = true ∧ o = enc r := by
  unfold one at h
  split at h
  · cases h
  · rename_i r m hd
    have hl := dec_len hd
    split at h
    · cases h
    · rename_i h60
      simp only [Bool.or_eq_true, beq_iff_eq, Bool.not_eq_true', not_or, Bool.not_eq_false] at h60
      split at h
      · split at h
        · cases h
        · rename_i q k hk
          injection h with h; injection h with h1 h2
          have := ref_ok hk
          exact ⟨by omega, by omega, q, this.1, h1.symm⟩
      · split at h
        · split at h
          · rename_i h13
            injection h with h; injection h with h1 h2
            have : (s.take 2).length = 2 := by rw [h13]; rfl
            rw [List.length_take] at this
            exact ⟨by omega, by omega, 10, by decide, by rw [← h1]; decide⟩
          · injection h with h; injection h with h1 h2
            exact ⟨by omega, by omega, 10, by decide, by rw [← h1]; decide⟩
        · injection h with h; injection h with h1 h2
          exact ⟨by omega, by omega, r, h60.2, h1.symm⟩

theorem getF_fuel (k : Nat) : ∀ k' s, s.length ≤ k → s.length ≤ k' → getF k s = getF k' s := by
  induction k with
  | zero =>
    intro k' s h h'
    have : s = [] := List.length_eq_zero_iff.1 (by omega)
    subst this
    cases k' <;> simp [getF]
  | succ k ih =>
    intro k' s h h'
    cases s with
    | nil => cases k' <;> simp [getF]
    | cons c t =>
      obtain ⟨k', rfl⟩ : ∃ m, k' = m + 1 := ⟨k' - 1, by simp at h'; omega⟩
      simp only [getF]
      rw [if_neg (by simp), if_neg (by simp)]
      cases ho : one (c :: t) with
      | error e => rfl
      | ok p =>
        obtain ⟨o, n⟩ := p
        have := one_ok ho
        simp only
        rw [ih k' (List.drop n (c :: t)) (by simp at h ⊢; omega) (by simp at h' ⊢; omega)]
theorem get_nil : get [] = .ok [] := rfl
theorem get_err {s : Bytes} {e : Int} (h0 : s ≠ []) (h : one s = .error e) : get s = .error (0, e) := by
  cases s with
  | nil => exact absurd rfl h0
  | cons c t => unfold get; simp only [List.length_cons, getF]; rw [if_neg (by simp), h]
theorem get_ok {s o : Bytes} {n : Nat} (h : one s = .ok (o, n)) : get s = match get (s.drop n) with | .error (p, e) => .error (n + p, e) | .ok t => .ok (o ++ t) := by
  have h1 := one_ok h
  cases s with
  | nil => simp at h1; omega
  | cons c t =>
    unfold get
    simp only [List.length_cons, getF]
    rw [if_neg (by simp), h]
    simp only
    rw [getF_fuel t.length (List.drop n (c :: t)).length (List.drop n (c :: t)) (by simp; omega) (Nat.le_refl _)]
    try rfl

theorem get_text (k : Nat) : ∀ s v, s.length ≤ k → get s = .ok v → isText v = true ∧ (s ≠ [] → v ≠ []) := by
  induction k with
  | zero =>
    intro s v h hg
    have : s = [] := List.length_eq_zero_iff.1 (by omega)
    subst this
    injection hg with hg
    subst hg
    exact ⟨rfl, fun h => absurd rfl h⟩
  | succ k ih =>
    intro s v h hg
    cases hs : s with
    | nil => subst hs; injection hg with hg; subst hg; exact ⟨rfl, fun h => absurd rfl h⟩
    | cons c t =>
      rw [← hs]
      cases ho : one s with
      | error e => rw [get_err (by rw [hs]; simp) ho] at hg; cases hg
      | ok p =>
        obtain ⟨o, n⟩ := p
        obtain ⟨h1, h2, r, hr, rfl⟩ := one_ok ho
        rw [get_ok ho] at hg
        cases hd : get (s.drop n) with
        | error p => rw [hd] at hg; cases hg
        | ok u =>
          rw [hd] at hg
          simp only at hg
          injection hg with hg
          subst hg
          have := (ih (s.drop n) u (by simp; omega) hd).1
          refine ⟨isText_app hr this, fun _ e => ?_⟩
          have := enc_pos r
          have : (enc r ++ u).length = 0 := by rw [e]; rfl
          rw [List.length_append] at this; omega

/-! escaping, and back -/
theorem escs_app (a b : Bytes) : escs (a ++ b) = escs a ++ escs b := by simp [escs]
theorem esc_high {c : UInt8} (h : 63 ≤ c.toNat) : esc c = [c] := by
  unfold esc
  split <;> first | omega | rfl
theorem escs_high {l : Bytes} (h : ∀ c ∈ l, 63 ≤ c.toNat) : escs l = l := by
  induction l with
  | nil => rfl
  | cons c l ih =>
    have : escs (c :: l) = esc c ++ escs l := rfl
    rw [this, esc_high (h c (by simp)), ih (fun d hd => h d (by simp [hd]))]; rfl
theorem enc_high {r : Nat} (h : 128 ≤ r) (hr : r ≤ 0x10ffff) : ∀ c ∈ enc r, 128 ≤ c.toNat := by
  intro c hc
  unfold enc at hc
  split at hc
  · omega
  · split at hc
    · simp only [List.mem_cons, List.not_mem_nil, or_false] at hc
      rcases hc with rfl | rfl <;> rw [u8 _ (by omega)] <;> omega
    · split at hc
      · simp only [List.mem_cons, List.not_mem_nil, or_false] at hc
        rcases hc with rfl | rfl | rfl <;> rw [u8 _ (by omega)] <;> omega
      · simp only [List.mem_cons, List.not_mem_nil, or_false] at hc
        rcases hc with rfl | rfl | rfl | rfl <;> rw [u8 _ (by omega)] <;> omega

theorem one_plain {r : Nat} (hr : isChar r = true) (h1 : r ≠ 60) (h2 : r ≠ 38) (h3 : r ≠ 13) (t : Bytes) : one (enc r ++ t) = .ok (enc r, (enc r).length) := by
  unfold one
  rw [dec_enc r (isChar_isRune hr)]
  simp [h1, h2, h3, hr]
theorem one_num {b : Bytes} {q : Nat} (h59 : ∀ t : Bytes, (35 :: b ++ 59 :: t).takeWhile (· != (59 : UInt8)) = 35 :: b) (hl : (35 :: b).length ≤ 11) (hv : counted b = q ∧ q ≠ 0) (t : Bytes) :
    one (38 :: 35 :: b ++ 59 :: t) = .ok (enc q, b.length + 3) := by
  unfold one
  have hd : dec (38 :: 35 :: b ++ 59 :: t) = some (38, 1) := dec_ascii (c := 38) (by decide) _
  rw [hd]
  simp only
  rw [if_neg (by decide), if_pos (by decide)]
  have hr : ref (38 :: 35 :: b ++ 59 :: t) = some (q, b.length + 3) := by
    unfold ref
    simp only [List.cons_append]
    have := h59 t
    simp only [List.cons_append] at this
    rw [this]
    have h1 : refVal (35 :: b) = q := hv.1
    simp only [List.length_cons] at hl
    rw [if_neg (by simp; omega), h1, if_neg (by simpa using hv.2)]
    simp
  rw [hr]
theorem one_esc {r : Nat} (hr : isChar r = true) (t : Bytes) : ∃ n, n = (escs (enc r)).length ∧ one (escs (enc r) ++ t) = .ok (enc r, n) := by
  refine ⟨_, rfl, ?_⟩
  by_cases hh : 128 ≤ r
  · have : r ≤ 0x10ffff := by simp [isChar] at hr; omega
    rw [escs_high (fun c hc => by have := enc_high hh this c hc; omega)]
    exact one_plain hr (by omega) (by omega) (by omega) t
  · have e : enc r = [r.toUInt8] := enc_ascii (by omega)
    have e2 : (r.toUInt8).toNat = r := u8 r (by omega)
    have e3 : escs (enc r) = esc r.toUInt8 := by rw [e]; simp [escs]
    by_cases hs : r = 38 ∨ r = 60 ∨ r = 62 ∨ r = 34 ∨ r = 9 ∨ r = 10 ∨ r = 13
    · rcases hs with rfl | rfl | rfl | rfl | rfl | rfl | rfl
      · rfl
      · rfl
      · rfl
      · rfl
      · exact one_num (b := [57]) (q := 9) (fun _ => rfl) (by decide) (by decide +kernel) t
      · exact one_num (b := [49, 48]) (q := 10) (fun _ => rfl) (by decide) (by decide +kernel) t
      · exact one_num (b := [49, 51]) (q := 13) (fun _ => rfl) (by decide) (by decide +kernel) t
    · have : esc r.toUInt8 = enc r := by
        unfold esc
        rw [e, e2]
        split <;> first | omega | rfl
      rw [e3, this]
      exact one_plain hr (by omega) (by omega) (by omega) t
theorem escs_ne {r : Nat} : (escs (enc r)).length ≠ 0 := by
  have h := enc_pos r
  cases he : enc r with
  | nil => rw [he] at h; simp at h
  | cons c l =>
    have : escs (c :: l) = esc c ++ escs l := rfl
    rw [this]
    have : (esc c).length ≠ 0 := by unfold esc; split <;> simp
    rw [List.length_append]; omega
theorem get_escs {v : Bytes} (h : isText v = true) : get (escs v) = .ok v := by
  obtain ⟨l, hl, rfl⟩ := (isText_iff v).1 h
  clear h
  induction l with
  | nil => rfl
  | cons r l ih =>
    have e : enes (r :: l) = enc r ++ enes l := rfl
    obtain ⟨n, hn, ho⟩ := one_esc (hl r (by simp)) (escs (enes l))
    rw [e, escs_app, get_ok ho]
    rw [hn, List.drop_left, ih (fun q hq => hl q (by simp [hq]))]

/-! what escaped bytes are not -/
theorem esc_no {c d : UInt8} (hd : d ∈ esc c) : d.toNat ≠ 34 ∧ d.toNat ≠ 60 ∧ d.toNat ≠ 9 ∧ d.toNat ≠ 10 ∧ d.toNat ≠ 13 := by
  unfold esc at hd
  split at hd <;> first
    | (simp only [List.mem_cons, List.not_mem_nil, or_false] at hd; rcases hd with rfl | rfl | rfl | rfl | rfl | rfl <;> decide)
    | (simp only [List.mem_cons, List.not_mem_nil, or_false] at hd; rcases hd with rfl | rfl | rfl | rfl | rfl <;> decide)
    | (simp only [List.mem_cons, List.not_mem_nil, or_false] at hd; rcases hd with rfl | rfl | rfl | rfl <;> decide)
    | (simp only [List.mem_cons, List.not_mem_nil, or_false] at hd; subst hd; refine ⟨?_, ?_, ?_, ?_, ?_⟩ <;> assumption)
theorem escs_no {v : Bytes} {d : UInt8} (hd : d ∈ escs v) : d.toNat ≠ 34 ∧ d.toNat ≠ 60 ∧ d.toNat ≠ 9 ∧ d.toNat ≠ 10 ∧ d.toNat ≠ 13 := by
  unfold escs at hd
  obtain ⟨c, _, h⟩ := List.mem_flatMap.1 hd
  exact esc_no h
theorem lines_same {s : Bytes} (h : ∀ d ∈ s, d.toNat ≠ 13) : lines s = s := by
  have key : ∀ k (s : Bytes), s.length ≤ k → (∀ d ∈ s, d.toNat ≠ 13) → lines s = s := by
    intro k
    induction k with
    | zero => intro s hk _; have : s = [] := List.length_eq_zero_iff.1 (by omega); subst this; rfl
    | succ k ih =>
      intro s hk h
      match s with
      | [] => rfl
      | [c] =>
        have : c ≠ 13 := fun e => h c (by simp) (by rw [e]; rfl)
        simp [lines, this]
      | c :: d :: t =>
        have : c ≠ 13 := fun e => h c (by simp) (by rw [e]; rfl)
        simp only [lines]
        rw [if_neg (by simpa using this), ih (d :: t) (by simp at hk ⊢; omega) (fun e he => h e (by simp only [List.mem_cons] at he ⊢; exact .inr he))]
  exact key s.length s (Nat.le_refl _) h
theorem flat_escs (v : Bytes) : flat (escs v) = escs v := by
  unfold flat
  rw [lines_same (fun d hd => (escs_no hd).2.2.2.2)]
  have : ∀ d ∈ escs v, flatB d = d := by
    intro d hd
    have := escs_no hd
    unfold flatB
    have h1 : d ≠ 9 := fun e => this.2.2.1 (by rw [e]; rfl)
    have h2 : d ≠ 10 := fun e => this.2.2.2.1 (by rw [e]; rfl)
    simp [h1, h2]
  rw [List.map_congr_left this, List.map_id']
theorem takeWhile_escs (v : Bytes) (q : UInt8) (hq : q = 34 ∨ q = 60) (t : Bytes) : (escs v ++ q :: t).takeWhile (· != q) = escs v := by
  rw [List.takeWhile_append_of_pos]
  · rw [List.takeWhile_cons]; simp
  · intro d hd
    have := escs_no hd
    rcases hq with rfl | rfl
    · have h1 : d ≠ 34 := fun e => this.1 (by rw [e]; rfl)
      simpa using h1
    · have h1 : d ≠ 60 := fun e => this.2.1 (by rw [e]; rfl)
      simpa using h1
theorem takeWhile_escs0 (v : Bytes) : (escs v).takeWhile (· != (60 : UInt8)) = escs v := by
  have := List.takeWhile_append_of_pos (p := (· != (60 : UInt8))) (l₁ := escs v) (l₂ := []) (by
    intro d hd
    have := escs_no hd
    have h1 : d ≠ 60 := fun e => this.2.1 (by rw [e]; rfl)
    simpa using h1)
  simpa using this
theorem escaped_text {v : Bytes} (h : isText v = true) : escaped v = escs v := by simp [escaped, put, h]
theorem valueP_put {v : Bytes} (h : isText v = true) (t : Bytes) : valueP (34 :: (escaped v ++ 34 :: t)) = .ok v t := by
  rw [escaped_text h]
  unfold valueP
  simp only
  rw [if_pos (by decide), takeWhile_escs v 34 (.inl rfl), get_escs h]
  simp only
  rw [if_neg (by simp), flat_escs, get_escs h]
  simp
theorem valueP_text {s v r : Bytes} (h : valueP s = .ok v r) : isText v = true := by
  unfold valueP at h
  cases s with
  | nil => cases h
  | cons q u =>
    simp only at h
    split at h
    · cases hg : get (u.takeWhile (· != q)) with
      | error p => rw [hg] at h; cases h
      | ok g =>
        rw [hg] at h
        simp only at h
        split at h
        · cases h
        · cases hg2 : get (flat (u.takeWhile (· != q))) with
          | error p => rw [hg2] at h; simp only at h; injection h with h1 h2; rw [← h1]; rfl
          | ok g2 => rw [hg2] at h; simp only at h; injection h with h1 h2; rw [← h1]; exact (get_text _ _ _ (Nat.le_refl _) hg2).1
    · cases h
end Pl

/- Plain laws: tokens told again; blanks; parts. -/
namespace Pl

theorem writeA_cons (a : Bytes × Bytes) (l : List (Bytes × Bytes)) : writeA (a :: l) = 32 :: (a.1 ++ 61 :: 34 :: (escaped a.2 ++ 34 :: writeA l)) := by
  simp [writeA]

/-- a name that can be told: whatever follows that is no name's, it is told -/
def GoodName (n : Bytes) : Prop := ∀ (t : Bytes) (c : UInt8), c.toNat < 128 → isOther c.toNat = false → nameP (n ++ c :: t) = .ok n (c :: t)
theorem good_of {s n r : Bytes} (h : nameP s = .ok n r) : GoodName n := fun t c hc ho => nameP_put h t c hc ho
theorem good_first {n : Bytes} (h : GoodName n) : ∃ c u, n = c :: u ∧ blankB c = false ∧ c ≠ 62 ∧ c ≠ 47 := by
  have h1 := h [] 62 (by decide) (by decide)
  have h2 := (nameP_ok h1).2.1
  cases n with
  | nil => exact absurd rfl h2
  | cons c u =>
    refine ⟨c, u, rfl, ?_⟩
    have key : ∀ d : UInt8, d.toNat < 128 → isFirst d.toNat = false → c ≠ d := by
      rintro d hd hf rfl
      unfold nameP at h1
      have : nameLen (c :: u ++ [62]) = 0 := by
        unfold nameLen
        rw [List.cons_append]
        simp only [List.length_cons, nameLenF, dec_ascii hd]
        rw [hf]; simp
      rw [this] at h1
      simp at h1
    refine ⟨?_, key 62 (by decide) (by decide), key 47 (by decide) (by decide)⟩
    rw [Bool.eq_false_iff]
    intro hb
    simp only [blankB, isBlank, Bool.or_eq_true, beq_iff_eq] at hb
    rcases hb with ((hb | hb) | hb) | hb
    · exact key 32 (by decide) (by decide) (by rw [u8_eq hb]; rfl)
    · exact key 9 (by decide) (by decide) (by rw [u8_eq hb]; rfl)
    · exact key 13 (by decide) (by decide) (by rw [u8_eq hb]; rfl)
    · exact key 10 (by decide) (by decide) (by rw [u8_eq hb]; rfl)

/-- attributes that can be told, behind some -/
def GoodAttrs : List (Bytes × Bytes) → List (Bytes × Bytes) → Prop
  | _, [] => True
  | l, a :: m => l.length ≠ 20 ∧ l.any (fun b => b.1 == a.1) = false ∧ GoodName a.1 ∧ isText a.2 = true ∧ GoodAttrs (l ++ [a]) m

theorem goodAttrs_snoc (m : List (Bytes × Bytes)) : ∀ l a, GoodAttrs l m → (l ++ m).length ≠ 20 → (l ++ m).any (fun b => b.1 == a.1) = false → GoodName a.1 → isText a.2 = true → GoodAttrs l (m ++ [a]) := by
  induction m with
  | nil => intro l a _ h1 h2 h3 h4; simp only [List.append_nil] at h1 h2; exact ⟨h1, h2, h3, h4, trivial⟩
  | cons b m ih =>
    intro l a ⟨g1, g2, g3, g4, g5⟩ h1 h2 h3 h4
    exact ⟨g1, g2, g3, g4, ih (l ++ [b]) a g5 (by simpa using h1) (by simpa using h2) h3 h4⟩

theorem blanks_32 (c : UInt8) (t : Bytes) (h : blankB c = false) : blanks (32 :: c :: t) = c :: t := by
  unfold blanks
  rw [List.dropWhile_cons, if_pos (by decide), List.dropWhile_cons, h]; simp
theorem blanks_no {c : UInt8} (t : Bytes) (h : blankB c = false) : blanks (c :: t) = c :: t := by
  unfold blanks
  rw [List.dropWhile_cons, h]; simp

theorem attrsF_put (m : List (Bytes × Bytes)) : ∀ k l c t, GoodAttrs l m → (writeA m ++ c :: t).length < k → (c = 62 ∨ c = 47) → attrsF k (writeA m ++ c :: t) l = .ok (l ++ m) (c :: t) := by
  induction m with
  | nil =>
    intro k l c t _ hk hc
    obtain ⟨k, rfl⟩ : ∃ j, k = j + 1 := ⟨k - 1, by omega⟩
    have hb : blankB c = false := by rcases hc with rfl | rfl <;> decide
    have e : writeA [] ++ c :: t = c :: t := rfl
    rw [e]
    simp only [attrsF]
    rw [blanks_no t hb, if_pos (by simp)]; simp
  | cons a m ih =>
    intro k l c t ⟨g1, g2, g3, g4, g5⟩ hk hc
    obtain ⟨k, rfl⟩ : ∃ j, k = j + 1 := ⟨k - 1, by omega⟩
    obtain ⟨d, u, hd, hb, h62, h47⟩ := good_first g3
    obtain ⟨n, v⟩ := a
    simp only at hd g2 g3 g4
    rw [writeA_cons] at hk ⊢
    simp only at hk ⊢
    have e : (32 :: (n ++ 61 :: 34 :: (escaped v ++ 34 :: writeA m))) ++ c :: t = 32 :: (n ++ 61 :: 34 :: (escaped v ++ 34 :: (writeA m ++ c :: t))) := by simp
    rw [e] at hk ⊢
    have e1 : blanks (32 :: (n ++ 61 :: 34 :: (escaped v ++ 34 :: (writeA m ++ c :: t)))) = n ++ 61 :: 34 :: (escaped v ++ 34 :: (writeA m ++ c :: t)) := by
      rw [hd]; exact blanks_32 d _ hb
    have ha : attrP (n ++ 61 :: 34 :: (escaped v ++ 34 :: (writeA m ++ c :: t))) l = .ok (l ++ [(n, v)]) (writeA m ++ c :: t) :=
      attrP_mk (g3 _ 61 (by decide) (by decide)) g1 g2 (blanks_no _ (by decide)) (by rw [blanks_no _ (by decide)]; exact valueP_put g4 _)
    have hlt := attrP_lt ha
    simp only [attrsF]
    rw [e1, if_neg (by simp)]
    have hk2 : (writeA m ++ c :: t).length < k := by simp only [List.length_cons] at hk; omega
    have hfin := ih k (l ++ [(n, v)]) c t g5 hk2 hc
    rw [List.append_assoc] at hfin
    have en : n ++ 61 :: 34 :: (escaped v ++ 34 :: (writeA m ++ c :: t)) = d :: (u ++ 61 :: 34 :: (escaped v ++ 34 :: (writeA m ++ c :: t))) := by rw [hd]; rfl
    rw [en] at ha ⊢
    simp only
    rw [if_neg (by simp [h62, h47]), ha]
    simp only
    rw [hfin]; rfl

theorem attrsF_good (k : Nat) : ∀ s l l' r, s.length < k → attrsF k s l = .ok l' r → ∃ m, l' = l ++ m ∧ GoodAttrs l m := by
  induction k with
  | zero => intro s l l' r h; omega
  | succ k ih =>
    intro s l l' r hk hh
    have hb := blanks_le s
    simp only [attrsF] at hh
    split at hh
    · injection hh with e _; exact ⟨[], by simp [e], trivial⟩
    · cases hcc : blanks s with
      | nil => rw [hcc] at hh; simp only at hh; injection hh with e _; exact ⟨[], by simp [e], trivial⟩
      | cons c u =>
        rw [hcc] at hh hb
        simp only at hh
        split at hh
        · injection hh with e _; exact ⟨[], by simp [e], trivial⟩
        · cases ha : attrP (c :: u) l with
          | bad e n => rw [ha] at hh; cases hh
          | ok l2 s2 =>
            rw [ha] at hh
            simp only at hh
            have hlt := attrP_lt ha
            obtain ⟨m, hm, hg⟩ := ih s2 l2 l' r (by omega) hh
            obtain ⟨name, s1, s3, v, h1, h2, h3, h4, h5, rfl⟩ := attrP_ok ha
            refine ⟨(name, v) :: m, by rw [hm]; simp, h2, h3, good_of h1, valueP_text h5, hg⟩

/-- what is told can be put, and is told again -/
theorem turn {s r : Bytes} {x : Tok} (h : tokP s = .ok x r) : tokP (write x) = .ok x [] := by
  match s, h with
  | [], h => cases h
  | c :: u, h =>
    by_cases h60 : c = 60
    · subst h60
      by_cases h47 : ∃ v, u = 47 :: v
      · obtain ⟨v, rfl⟩ := h47
        obtain ⟨name, s1, h1, h2, rfl⟩ := closeP_ok (s := v) h
        have : write ⟨2, name, [], []⟩ = 60 :: 47 :: (name ++ [62]) := by simp [write]
        rw [this]
        exact closeP_mk (s := name ++ [62]) (good_of h1 [] 62 (by decide) (by decide)) rfl
      · have hn : ∀ v, u ≠ 47 :: v := fun v e => h47 ⟨v, e⟩
        rw [tokP_open hn] at h
        obtain ⟨name, s1, l, s2, k, h1, h2, h3, rfl⟩ := openP_ok h
        obtain ⟨m, hm, hg⟩ := attrsF_good _ _ _ _ _ (Nat.lt_succ_self _) h2
        simp only [List.nil_append] at hm
        subst hm
        have g := good_of h1
        obtain ⟨d, w, hd, _, _, hd47⟩ := good_first g
        have fin : ∀ (k : Int) (e : Bytes) (c : UInt8) (t : Bytes), e = c :: t → (c = 62 ∨ c = 47) → endsP e = .ok k [] → tokP (60 :: (name ++ (writeA l ++ e))) = .ok ⟨k, name, l, []⟩ [] := by
          intro k e c t he hc hk
          subst he
          rw [tokP_open (by intro v hv; rw [hd] at hv; injection hv with hv _; exact hd47 hv)]
          refine openP_mk (s1 := writeA l ++ c :: t) (s2 := c :: t) ?_ ?_ hk
          · cases hl : l with
            | nil => exact g t c (by rcases hc with rfl | rfl <;> decide) (by rcases hc with rfl | rfl <;> decide)
            | cons a m => rw [writeA_cons]; exact g _ 32 (by decide) (by decide)
          · exact attrsF_put l _ [] c t hg (Nat.lt_succ_self _) hc
        rcases endsP_ok h3 with ⟨rfl, rfl⟩ | ⟨rfl, rfl⟩
        · have : write ⟨3, name, l, []⟩ = 60 :: (name ++ (writeA l ++ [47, 62])) := by simp [write]
          rw [this]
          exact fin 3 [47, 62] 47 [62] rfl (.inr rfl) rfl
        · have : write ⟨1, name, l, []⟩ = 60 :: (name ++ (writeA l ++ [62])) := by simp [write]
          rw [this]
          exact fin 1 [62] 62 [] rfl (.inl rfl) rfl
    · have ht : ∀ (a : Bytes) v, c :: a ≠ 60 :: v := fun a v e => by injection e with e1 e2; exact h60 e1
      rw [tokP_text (by simp) (ht u)] at h
      obtain ⟨v, hg, hr, rfl⟩ := textP_ok h
      obtain ⟨hv, hne⟩ := get_text _ _ _ (Nat.le_refl _) hg
      have hne' : v ≠ [] := hne (by rw [List.takeWhile_cons, if_pos (by simpa using h60)]; simp)
      have hw : write ⟨4, [], [], v⟩ = escs v := by simp [write, escaped_text hv]
      rw [hw]
      have hnil : escs v ≠ [] := by
        intro e
        have := get_escs hv
        rw [e] at this
        injection this with this
        exact hne' this.symm
      rw [tokP_text hnil]
      · have := textP_mk (s := escs v) (t := v) (by rw [takeWhile_escs0]; exact get_escs hv)
        rw [this, takeWhile_escs0]; simp
      · intro w e
        have h1 : (60 : UInt8) ∈ escs v := by rw [e]; simp
        exact (escs_no h1).2.1 rfl
theorem turn_put {s r : Bytes} {x : Tok} (h : tokP s = .ok x r) : putT x = some (write x) := by
  unfold putT; rw [if_pos (turn h)]

/-! all tokens -/
theorem allF_fuel (k : Nat) : ∀ k' s, s.length ≤ k → s.length ≤ k' → allF k s = allF k' s := by
  induction k with
  | zero =>
    intro k' s h h'
    have : s = [] := List.length_eq_zero_iff.1 (by omega)
    subst this
    cases k' <;> simp [allF]
  | succ k ih =>
    intro k' s h h'
    cases s with
    | nil => cases k' <;> simp [allF]
    | cons c t =>
      obtain ⟨k', rfl⟩ : ∃ m, k' = m + 1 := ⟨k' - 1, by simp at h'; omega⟩
      simp only [allF]
      rw [if_neg (by simp), if_neg (by simp)]
      cases ho : tokP (c :: t) with
      | bad e n => rfl
      | ok x r =>
        have := tokP_lt ho
        simp only
        rw [ih k' r (by omega) (by omega)]
theorem all_nil : all [] = .ok [] := rfl
theorem all_bad {s : Bytes} {e : Int} {n : Nat} (h0 : s ≠ []) (h : tokP s = .bad e n) : all s = .error (s.length - n, e) := by
  cases s with
  | nil => exact absurd rfl h0
  | cons c t => unfold all; simp only [List.length_cons, allF]; rw [if_neg (by simp), h]
theorem all_ok {s r : Bytes} {x : Tok} (h : tokP s = .ok x r) : all s = match all r with | .error (p, e) => .error (s.length - r.length + p, e) | .ok l => .ok (x :: l) := by
  have h1 := tokP_lt h
  cases s with
  | nil => simp at h1
  | cons c t =>
    unfold all
    simp only [List.length_cons, allF]
    rw [if_neg (by simp), h]
    simp only
    rw [allF_fuel t.length r.length r (by simp at h1; omega) (Nat.le_refl _)]
    try rfl

/-- TokenTurns, plainly: tokens put one behind the other are those again -/
theorem turns (k : Nat) : ∀ s l, s.length ≤ k → all s = .ok l → (∀ x ∈ l, putT x = some (write x)) ∧ all (l.flatMap write) = .ok l ∧ (s.head? = some 60 ∨ s = [] → (l.flatMap write).head? = some 60 ∨ l = []) := by
  induction k with
  | zero =>
    intro s l h hs
    have : s = [] := List.length_eq_zero_iff.1 (by omega)
    subst this
    injection hs with hs
    subst hs
    exact ⟨by simp, rfl, fun _ => .inr rfl⟩
  | succ k ih =>
    intro s l h hs
    by_cases h0 : s = []
    · subst h0
      injection hs with hs
      subst hs
      exact ⟨by simp, rfl, fun _ => .inr rfl⟩
    · cases ht : tokP s with
      | bad e n => rw [all_bad h0 ht] at hs; cases hs
      | ok x r =>
        have hlt := tokP_lt ht
        rw [all_ok ht] at hs
        cases hr : all r with
        | error p => rw [hr] at hs; cases hs
        | ok l2 =>
          rw [hr] at hs
          simp only at hs
          injection hs with hs
          subst hs
          obtain ⟨i1, i2, i3⟩ := ih r l2 (by omega) hr
          have hw := turn ht
          refine ⟨?_, ?_, ?_⟩
          · intro y hy
            simp only [List.mem_cons] at hy
            rcases hy with rfl | hy
            · exact turn_put ht
            · exact i1 y hy
          · have hc : x.kind = 4 → ([] : Bytes) ≠ [] ∨ l2.flatMap write = [] ∨ ∃ t', l2.flatMap write = 60 :: t' := by
              intro hk
              right
              have hrh : r.head? = some 60 ∨ r = [] := by
                match s, ht, h0 with
                | c :: u, ht, _ =>
                  by_cases h60 : c = 60
                  · exfalso
                    subst h60
                    by_cases h47 : ∃ v, u = 47 :: v
                    · obtain ⟨v, rfl⟩ := h47
                      obtain ⟨_, _, _, _, rfl⟩ := closeP_ok (s := v) ht
                      simp at hk
                    · rw [tokP_open (fun v e => h47 ⟨v, e⟩)] at ht
                      obtain ⟨_, _, _, _, k', _, _, h3, rfl⟩ := openP_ok ht
                      simp only at hk
                      rcases endsP_ok h3 with ⟨_, rfl⟩ | ⟨_, rfl⟩ <;> simp at hk
                  · rw [tokP_text (by simp) (fun v e => by injection e with e1 e2; exact h60 e1)] at ht
                    obtain ⟨v, hg, hr', rfl⟩ := textP_ok ht
                    rw [drop_takeWhile] at hr'
                    cases hrr : r with
                    | nil => exact .inr rfl
                    | cons d w =>
                      left
                      have := List.head?_dropWhile_not (· != (60 : UInt8)) (c :: u)
                      rw [← hr', hrr] at this
                      simpa using this
              rcases i3 hrh with hh | hh
              · right
                cases hf : l2.flatMap write with
                | nil => rw [hf] at hh; simp at hh
                | cons d w => rw [hf] at hh; simp at hh; exact ⟨w, by rw [hh]⟩
              · left; rw [hh]; rfl
            have hx := tokP_ext hw (l2.flatMap write) hc
            rw [List.nil_append] at hx
            have e : (x :: l2).flatMap write = write x ++ l2.flatMap write := rfl
            rw [e, all_ok hx, i2]
          · intro hs
            left
            have hs' : s.head? = some 60 := hs.resolve_right h0
            match s, ht, hs' with
            | c :: u, ht, hs' =>
              simp only [List.head?_cons, Option.some.injEq] at hs'
              subst hs'
              have e : (x :: l2).flatMap write = write x ++ l2.flatMap write := rfl
              rw [e]
              by_cases h47 : ∃ v, u = 47 :: v
              · obtain ⟨v, rfl⟩ := h47
                obtain ⟨_, _, _, _, rfl⟩ := closeP_ok (s := v) ht
                simp [write]
              · rw [tokP_open (fun v e => h47 ⟨v, e⟩)] at ht
                obtain ⟨_, _, _, _, k', _, _, h3, rfl⟩ := openP_ok ht
                rcases endsP_ok h3 with ⟨_, rfl⟩ | ⟨_, rfl⟩ <;> simp [write]

/-- TokenParts, plainly -/
theorem parts (k : Nat) : ∀ s l t, s.length ≤ k → all s = .ok l → all (s ++ 60 :: t) = match all (60 :: t) with | .error (p, e) => .error (s.length + p, e) | .ok m => .ok (l ++ m) := by
  induction k with
  | zero =>
    intro s l t h hs
    have : s = [] := List.length_eq_zero_iff.1 (by omega)
    subst this
    injection hs with hs
    subst hs
    simp only [List.nil_append]
    cases all (60 :: t) with
    | error p => simp
    | ok m => rfl
  | succ k ih =>
    intro s l t h hs
    by_cases h0 : s = []
    · subst h0
      injection hs with hs
      subst hs
      simp only [List.nil_append]
      cases all (60 :: t) with
      | error p => simp
      | ok m => rfl
    · cases ht : tokP s with
      | bad e n => rw [all_bad h0 ht] at hs; cases hs
      | ok x r =>
        have hlt := tokP_lt ht
        rw [all_ok ht] at hs
        cases hr : all r with
        | error p => rw [hr] at hs; cases hs
        | ok l2 =>
          rw [hr] at hs
          simp only at hs
          injection hs with hs
          subst hs
          have hx := tokP_ext ht (60 :: t) (fun _ => .inr (.inr ⟨t, rfl⟩))
          rw [all_ok hx, ih r l2 t (by omega) hr]
          cases all (60 :: t) with
          | error p => simp only; congr 2; simp; omega
          | ok m => rfl

/-! blanks ahead of a tag's end -/
theorem blanks_all {b : Bytes} (hb : ∀ c ∈ b, blankB c = true) (t : Bytes) : blanks (b ++ t) = blanks t := by
  unfold blanks
  rw [List.dropWhile_append_of_pos hb]
theorem attrsF_blanks (k : Nat) : ∀ s l l' c t (b : Bytes), s.length < k → attrsF k s l = .ok l' (c :: t) → (c = 62 ∨ c = 47) → (∀ c ∈ b, blankB c = true) →
    ∃ u, s = u ++ c :: t ∧ attrsF (k + b.length) (u ++ b ++ c :: t) l = .ok l' (c :: t) ∧ (u = [] ∨ ∃ d v, u = d :: v ∧ blankB d = true) := by
  induction k with
  | zero => intro s l l' c t b h; omega
  | succ k ih =>
    intro s l l' c t b hk hs hc hb
    have hcb : blankB c = false := by rcases hc with rfl | rfl <;> decide
    have hcc : (c == 62 || c == 47) = true := by rcases hc with rfl | rfl <;> decide
    have hle := blanks_le s
    have key : ∀ k (v : Bytes), (∀ d ∈ v, blankB d = true) → attrsF (k + 1) (v ++ c :: t) l = .ok l (c :: t) := by
      intro k v hv
      simp only [attrsF]
      rw [blanks_all hv, blanks_no t hcb]
      cases v with
      | nil => rw [if_pos (by simp)]; rfl
      | cons d w => rw [if_neg (by simp; omega)]; simp only; rw [if_pos hcc]
    simp only [attrsF] at hs
    by_cases hne : ((blanks s).length == s.length) = true
    · rw [if_pos hne] at hs
      injection hs with h1 h2
      subst h1; subst h2
      refine ⟨[], rfl, ?_, .inl rfl⟩
      rw [show k + 1 + b.length = (k + b.length) + 1 by omega]
      exact key _ b hb
    · rw [if_neg hne] at hs
      have hne' : (blanks s).length ≠ s.length := by simpa using hne
      have hpre : s = s.takeWhile blankB ++ blanks s := (List.takeWhile_append_dropWhile (p := blankB) (l := s)).symm
      have htw : ∀ d ∈ s.takeWhile blankB, blankB d = true := fun d hd => List.all_eq_true.1 (List.all_takeWhile (p := blankB) (l := s)) d hd
      have htn : s.takeWhile blankB ≠ [] := by intro e; rw [e, List.nil_append] at hpre; exact hne' (congrArg List.length hpre).symm
      have hfirst : ∀ z : Bytes, ∃ d v, s.takeWhile blankB ++ z = d :: v ∧ blankB d = true := by
        intro z
        cases hw : s.takeWhile blankB with
        | nil => exact absurd hw htn
        | cons d w => exact ⟨d, w ++ z, rfl, htw d (by rw [hw]; simp)⟩
      cases hbs : blanks s with
      | nil => rw [hbs] at hs; simp only at hs; injection hs with h1 h2; cases h2
      | cons d v =>
        rw [hbs] at hs
        simp only at hs
        split at hs
        · injection hs with h1 h2
          subst h1
          injection h2 with h3 h4
          subst h3; subst h4
          refine ⟨s.takeWhile blankB, by rw [← hbs]; exact hpre, ?_, .inr ?_⟩
          · rw [show k + 1 + b.length = (k + b.length) + 1 by omega]
            refine key _ (s.takeWhile blankB ++ b) ?_
            intro e he
            rcases List.mem_append.1 he with he | he
            · exact htw e he
            · exact hb e he
          · have := hfirst []
            simpa using this
        · rename_i h6
          cases ha : attrP (d :: v) l with
          | bad e n => rw [ha] at hs; cases hs
          | ok l2 s2 =>
            rw [ha] at hs
            simp only at hs
            have hlt := attrP_lt ha
            rw [hbs] at hle
            obtain ⟨u2, hu2, hf2, hu3⟩ := ih s2 l2 l' c t b (by omega) hs hc hb
            -- the attribute itself, ahead of whatever
            obtain ⟨name, s1, s3, w, g1, g2, g3, g4, g5, rfl⟩ := attrP_ok ha
            have hsuf : ∃ p, d :: v = p ++ s2 ∧ ∀ z : Bytes, attrP (p ++ z) l = .ok (l ++ [(name, w)]) z := by
              have e1 := (nameP_ok g1).1
              have e2 : s1 = s1.takeWhile blankB ++ 61 :: s3 := by
                have := (List.takeWhile_append_dropWhile (p := blankB) (l := s1)).symm
                have h4 : s1.dropWhile blankB = 61 :: s3 := g4
                rw [h4] at this; exact this
              have e3 : s3 = s3.takeWhile blankB ++ blanks s3 := (List.takeWhile_append_dropWhile (p := blankB) (l := s3)).symm
              have b1 : ∀ d ∈ s1.takeWhile blankB, blankB d = true := fun d hd => List.all_eq_true.1 (List.all_takeWhile (p := blankB) (l := s1)) d hd
              have b3 : ∀ d ∈ s3.takeWhile blankB, blankB d = true := fun d hd => List.all_eq_true.1 (List.all_takeWhile (p := blankB) (l := s3)) d hd
              obtain ⟨q, hq1, hq2, hq3⟩ : ∃ q, blanks s3 = q ++ s2 ∧ (∀ z, valueP (q ++ z) = .ok w z) ∧ ∃ q0 q1, q = q0 :: q1 ∧ blankB q0 = false := by
                have g5' := g5
                unfold valueP at g5
                cases hz : blanks s3 with
                | nil => rw [hz] at g5; cases g5
                | cons q0 q1 =>
                  rw [hz] at g5 g5'
                  simp only at g5
                  split at g5
                  · rename_i hqq
                    cases hg : get (q1.takeWhile (· != q0)) with
                    | error p => rw [hg] at g5; cases g5
                    | ok gg =>
                      rw [hg] at g5
                      simp only at g5
                      split at g5
                      · cases g5
                      · rename_i hl
                        have hl' : (q1.takeWhile (· != q0)).length ≠ q1.length := by simpa using hl
                        have hs2 : s2 = q1.drop ((q1.takeWhile (· != q0)).length + 1) := by
                          cases hg2 : get (flat (q1.takeWhile (· != q0))) with
                          | error p => rw [hg2] at g5; simp only at g5; injection g5 with _ h2; exact h2.symm
                          | ok g2 => rw [hg2] at g5; simp only at g5; injection g5 with _ h2; exact h2.symm
                        have hw : w = match get (flat (q1.takeWhile (· != q0))) with | .error _ => [] | .ok v => v := by
                          cases hg2 : get (flat (q1.takeWhile (· != q0))) with
                          | error p => rw [hg2] at g5; simp only at g5; injection g5 with h1 _; exact h1.symm
                          | ok g2 => rw [hg2] at g5; simp only at g5; injection g5 with h1 _; exact h1.symm
                        have hdw : q1.dropWhile (· != q0) = q0 :: s2 := by
                          have hlen : (q1.dropWhile (· != q0)).length ≠ 0 := by
                            have := congrArg List.length (List.takeWhile_append_dropWhile (p := (· != q0)) (l := q1))
                            rw [List.length_append] at this; omega
                          cases hdd : q1.dropWhile (· != q0) with
                          | nil => rw [hdd] at hlen; simp at hlen
                          | cons y ys =>
                            have hy := List.head?_dropWhile_not (· != q0) q1
                            rw [hdd] at hy
                            have hy' : y = q0 := by simpa using hy
                            have hd2 : q1.drop (q1.takeWhile (· != q0)).length = y :: ys := by rw [drop_takeWhile, hdd]
                            have : q1.drop ((q1.takeWhile (· != q0)).length + 1) = ys := by rw [← List.drop_drop, hd2]; rfl
                            rw [hy', hs2, this]
                        refine ⟨q0 :: (q1.takeWhile (· != q0) ++ [q0]), ?_, ?_, q0, _, rfl, blanks_head hz⟩
                        · have := (List.takeWhile_append_dropWhile (p := (· != q0)) (l := q1)).symm
                          rw [hdw] at this
                          rw [List.cons_append, List.append_assoc]; exact congrArg (q0 :: ·) this
                        · intro z
                          have htk : (q1.takeWhile (· != q0) ++ q0 :: z).takeWhile (· != q0) = q1.takeWhile (· != q0) := by
                            rw [List.takeWhile_append_of_pos]
                            · rw [List.takeWhile_cons]; simp
                            · intro a ha; exact List.all_eq_true.1 (List.all_takeWhile (p := (· != q0)) (l := q1)) a ha
                          unfold valueP
                          simp only [List.cons_append, List.append_assoc, List.nil_append]
                          rw [if_pos hqq, htk, hg]
                          simp only
                          rw [if_neg (by simp)]
                          have hdz : List.drop ((q1.takeWhile (· != q0)).length + 1) (q1.takeWhile (· != q0) ++ q0 :: z) = z := by
                            rw [← List.drop_drop]; simp
                          rw [hdz, hw]
                          cases get (flat (q1.takeWhile (· != q0))) <;> rfl
                  · cases g5
              obtain ⟨q0, q1, rfl, hq0⟩ := hq3
              refine ⟨name ++ (s1.takeWhile blankB ++ 61 :: (s3.takeWhile blankB ++ q0 :: q1)), ?_, ?_⟩
              · rw [e1]
                have e5 : q0 :: (q1 ++ s2) = blanks s3 := hq1.symm
                simp only [List.append_assoc, List.cons_append]
                rw [e5, ← e3, ← e2]
              · intro z
                have gn := good_of g1
                have n1 : nameP (name ++ (s1.takeWhile blankB ++ 61 :: (s3.takeWhile blankB ++ q0 :: (q1 ++ z)))) = .ok name (s1.takeWhile blankB ++ 61 :: (s3.takeWhile blankB ++ q0 :: (q1 ++ z))) := by
                  cases hw : s1.takeWhile blankB with
                  | nil => exact gn _ 61 (by decide) (by decide)
                  | cons y ys =>
                    have hy := b1 y (by rw [hw]; simp)
                    simp only [blankB, isBlank, Bool.or_eq_true, beq_iff_eq] at hy
                    refine gn _ y (by omega) ?_
                    rcases hy with ((hy | hy) | hy) | hy <;> rw [hy] <;> decide
                simp only [List.append_assoc, List.cons_append]
                refine attrP_mk n1 g2 g3 (s3 := s3.takeWhile blankB ++ q0 :: (q1 ++ z)) ?_ ?_
                · rw [blanks_all b1]; exact blanks_no _ (by decide)
                · rw [blanks_all b3, blanks_no _ hq0]; exact hq2 z
            obtain ⟨p, hp1, hp2⟩ := hsuf
            refine ⟨s.takeWhile blankB ++ (p ++ u2), ?_, ?_, .inr (hfirst _)⟩
            · conv => lhs; rw [hpre, hbs, hp1, hu2]
              simp
            · have hpn : ∃ d' v', p ++ (u2 ++ (b ++ c :: t)) = d' :: v' ∧ blankB d' = false ∧ (d' == 62 || d' == 47) = false := by
                have hpne : p ≠ [] := by
                  intro e
                  have := attrP_lt (hp2 [])
                  rw [e] at this; simp at this
                cases p with
                | nil => exact absurd rfl hpne
                | cons d' v' =>
                  injection hp1 with hd' _
                  refine ⟨d', v' ++ (u2 ++ (b ++ c :: t)), rfl, ?_, ?_⟩
                  · rw [← hd']; exact blanks_head hbs
                  · rw [← hd']; exact Bool.eq_false_iff.2 h6
              obtain ⟨d', v', hdv, hd1, hd2⟩ := hpn
              have e : s.takeWhile blankB ++ (p ++ u2) ++ b ++ c :: t = s.takeWhile blankB ++ (p ++ (u2 ++ (b ++ c :: t))) := by simp
              have e2 : u2 ++ (b ++ c :: t) = u2 ++ b ++ c :: t := by simp
              have ha2 := hp2 (u2 ++ (b ++ c :: t))
              rw [hdv] at ha2
              rw [e, hdv, show k + 1 + b.length = (k + b.length) + 1 by omega]
              simp only [attrsF]
              rw [blanks_all htw, blanks_no _ hd1]
              rw [if_neg (by simp; exact htn)]
              simp only
              rw [if_neg (by rw [hd2]; simp), ha2]
              simp only
              rw [e2]
              exact hf2
end Pl

/- Plain words: what is wrong is no zero, and lies within the text. -/
namespace Pl
def Wrong (e : Int) (n L : Nat) : Prop := e ≠ 0 ∧ n ≤ L
theorem nameP_wrong {s : Bytes} {e : Int} {n : Nat} (h : nameP s = .bad e n) : Wrong e n s.length := by
  unfold nameP at h
  simp only at h
  split at h
  · injection h with h1 h2; exact ⟨by rw [← h1]; decide, by omega⟩
  · cases h
theorem mustP_wrong {c : UInt8} {s : Bytes} {e : Int} {n : Nat} (h : mustP c s = .bad e n) : Wrong e n s.length := by
  unfold mustP at h
  split at h
  · split at h
    · cases h
    · injection h with h1 h2; exact ⟨by rw [← h1]; decide, by omega⟩
  · injection h with h1 h2; exact ⟨by rw [← h1]; decide, by omega⟩
theorem one_wrong {s : Bytes} {e : Int} (h : one s = .error e) : e = 20 ∨ e = 40 := by
  unfold one at h
  split at h
  · injection h with h; exact .inl h.symm
  · split at h
    · injection h with h; exact .inr h.symm
    · split at h
      · split at h
        · injection h with h; exact .inr h.symm
        · cases h
      · split at h
        · split at h <;> cases h
        · cases h
theorem get_wrong : ∀ (k : Nat) (s : Bytes) (p : Nat) (e : Int), s.length ≤ k → get s = .error (p, e) → Wrong e p s.length := by
  intro k
  induction k with
  | zero =>
    intro s p e h hg
    have : s = [] := List.length_eq_zero_iff.1 (by omega)
    subst this; cases hg
  | succ k ih =>
    intro s p e h hg
    by_cases h0 : s = []
    · subst h0; cases hg
    · cases ho : one s with
      | error e' =>
        rw [get_err h0 ho] at hg; injection hg with hg; injection hg with h1 h2
        refine ⟨?_, by omega⟩
        rw [← h2]
        rcases one_wrong ho with h | h <;> rw [h] <;> decide
      | ok q =>
        obtain ⟨o, n⟩ := q
        have h1 := one_ok ho
        rw [get_ok ho] at hg
        cases hk : get (s.drop n) with
        | error q =>
          obtain ⟨p', e'⟩ := q
          rw [hk] at hg
          simp only at hg
          injection hg with hg; injection hg with h2 h3
          have h4 := ih (s.drop n) p' e' (by simp; omega) hk
          refine ⟨by rw [← h3]; exact h4.1, ?_⟩
          have h5 := h4.2
          rw [List.length_drop] at h5
          omega
        | ok t => rw [hk] at hg; cases hg
theorem valueP_wrong {s : Bytes} {e : Int} {n : Nat} (h : valueP s = .bad e n) : Wrong e n s.length := by
  unfold valueP at h
  split at h
  · injection h with h1 h2; exact ⟨by rw [← h1]; decide, by omega⟩
  · rename_i q t
    split at h
    · simp only at h
      split at h
      · rename_i p e' hg
        injection h with h1 h2
        have := get_wrong _ _ _ _ (Nat.le_refl _) hg
        exact ⟨by rw [← h1]; exact this.1, by simp; omega⟩
      · split at h
        · injection h with h1 h2; exact ⟨by rw [← h1]; decide, by omega⟩
        · split at h <;> cases h
    · injection h with h1 h2; exact ⟨by rw [← h1]; decide, by omega⟩
theorem attrP_wrong {s : Bytes} {l : List (Bytes × Bytes)} {e : Int} {n : Nat} (h : attrP s l = .bad e n) : Wrong e n s.length := by
  unfold attrP at h
  cases hn : nameP s with
  | bad e1 n1 => rw [hn] at h; injection h with h1 h2; have := nameP_wrong hn; exact ⟨by rw [← h1]; exact this.1, by have := this.2; omega⟩
  | ok nm s1 =>
    rw [hn] at h
    have hs1 : s1.length ≤ s.length := by have h1 := (nameP_ok hn).1; rw [h1, List.length_append]; omega
    simp only at h
    split at h
    · injection h with h1 h2; exact ⟨by rw [← h1]; decide, by omega⟩
    · split at h
      · injection h with h1 h2; exact ⟨by rw [← h1]; decide, by omega⟩
      · have hb := blanks_le s1
        cases hm : mustP 61 (blanks s1) with
        | bad e1 n1 => rw [hm] at h; injection h with h1 h2; have := mustP_wrong hm; exact ⟨by rw [← h1]; exact this.1, by have := this.2; omega⟩
        | ok u s3 =>
          rw [hm] at h
          simp only at h
          have hs3 : s3.length < (blanks s1).length := by have h1 := mustP_ok hm; rw [h1]; simp
          have hb3 := blanks_le s3
          cases hv : valueP (blanks s3) with
          | bad e1 n1 => rw [hv] at h; injection h with h1 h2; have := valueP_wrong hv; exact ⟨by rw [← h1]; exact this.1, by have := this.2; omega⟩
          | ok v s4 => rw [hv] at h; cases h
theorem attrsF_wrong : ∀ (k : Nat) (s : Bytes) (l : List (Bytes × Bytes)) (e : Int) (n : Nat), attrsF k s l = .bad e n → Wrong e n s.length := by
  intro k
  induction k with
  | zero => intro s l e n h; cases h
  | succ k ih =>
    intro s l e n h
    have hb := blanks_le s
    unfold attrsF at h
    simp only at h
    split at h
    · cases h
    · split at h
      · cases h
      · split at h
        · cases h
        · cases ha : attrP (blanks s) l with
          | bad e1 n1 => rw [ha] at h; injection h with h1 h2; have := attrP_wrong ha; exact ⟨by rw [← h1]; exact this.1, by have := this.2; omega⟩
          | ok l' s2 =>
            rw [ha] at h
            have h2 := attrP_lt ha
            have := ih s2 l' e n h
            exact ⟨this.1, by have := this.2; omega⟩
theorem attrsF_le : ∀ (k : Nat) (s : Bytes) (l l' : List (Bytes × Bytes)) (r : Bytes), attrsF k s l = .ok l' r → r.length ≤ s.length := by
  intro k
  induction k with
  | zero => intro s l l' r h; injection h with _ h; rw [← h]; exact Nat.le_refl _
  | succ k ih =>
    intro s l l' r h
    have hb := blanks_le s
    unfold attrsF at h
    simp only at h
    split at h
    · injection h with _ h; rw [← h]; exact Nat.le_refl _
    · split at h
      · injection h with _ h; rw [← h]; exact hb
      · split at h
        · injection h with _ h; rw [← h]; exact hb
        · cases ha : attrP (blanks s) l with
          | bad e1 n1 => rw [ha] at h; cases h
          | ok l2 s2 =>
            rw [ha] at h
            have h2 := attrP_lt ha
            have := ih s2 l2 l' r h
            omega
theorem endsP_wrong {s : Bytes} {e : Int} {n : Nat} (h : endsP s = .bad e n) : Wrong e n s.length := by
  unfold endsP at h
  split at h
  · split at h
    · rename_i t _ _ hm; injection h with h1 h2; have := mustP_wrong hm; exact ⟨by rw [← h1]; exact this.1, by have := this.2; simp; omega⟩
    · cases h
  · split at h
    · rename_i hm; injection h with h1 h2; have := mustP_wrong hm; exact ⟨by rw [← h1]; exact this.1, by have := this.2; omega⟩
    · cases h
theorem tokP_wrong {s : Bytes} {e : Int} {n : Nat} (h : tokP s = .bad e n) : Wrong e n s.length := by
  unfold tokP at h
  split at h
  · injection h with h1 h2; exact ⟨by rw [← h1]; decide, by omega⟩
  · rename_i t
    unfold closeP at h
    cases hn : nameP t with
    | bad e1 n1 => rw [hn] at h; injection h with h1 h2; have := nameP_wrong hn; exact ⟨by rw [← h1]; exact this.1, by have := this.2; simp; omega⟩
    | ok nm s1 =>
      rw [hn] at h
      have hs1 : s1.length ≤ t.length := by have h1 := (nameP_ok hn).1; rw [h1, List.length_append]; omega
      have hb := blanks_le s1
      simp only at h
      cases hm : mustP 62 (blanks s1) with
      | bad e1 n1 => rw [hm] at h; injection h with h1 h2; have := mustP_wrong hm; exact ⟨by rw [← h1]; exact this.1, by have := this.2; simp; omega⟩
      | ok u r => rw [hm] at h; cases h
  · rename_i t _
    unfold openP at h
    cases hn : nameP t with
    | bad e1 n1 => rw [hn] at h; injection h with h1 h2; have := nameP_wrong hn; exact ⟨by rw [← h1]; exact this.1, by have := this.2; simp; omega⟩
    | ok nm s1 =>
      rw [hn] at h
      have hs1 : s1.length ≤ t.length := by have h1 := (nameP_ok hn).1; rw [h1, List.length_append]; omega
      simp only at h
      cases ha : attrsP s1 with
      | bad e1 n1 => rw [ha] at h; injection h with h1 h2; have := attrsF_wrong _ _ _ _ _ ha; exact ⟨by rw [← h1]; exact this.1, by have := this.2; simp; omega⟩
      | ok l s2 =>
        rw [ha] at h
        have hs2 := attrsF_le _ _ _ _ _ ha
        simp only at h
        cases he : endsP s2 with
        | bad e1 n1 => rw [he] at h; injection h with h1 h2; have := endsP_wrong he; exact ⟨by rw [← h1]; exact this.1, by have := this.2; simp; omega⟩
        | ok k r => rw [he] at h; cases h
  · unfold textP at h
    simp only at h
    split at h
    · rename_i p e' hg
      injection h with h1 h2
      have := get_wrong _ _ _ _ (Nat.le_refl _) hg
      exact ⟨by rw [← h1]; exact this.1, by omega⟩
    · cases h
end Pl
namespace Pl
theorem attrsF_num : ∀ (k : Nat) (s : Bytes) (l l' : List (Bytes × Bytes)) (r : Bytes), l.length ≤ 20 → attrsF k s l = .ok l' r → l'.length ≤ 20 := by
  intro k
  induction k with
  | zero => intro s l l' r hl h; injection h with h _; rw [← h]; exact hl
  | succ k ih =>
    intro s l l' r hl h
    unfold attrsF at h
    simp only at h
    split at h
    · injection h with h _; rw [← h]; exact hl
    · split at h
      · injection h with h _; rw [← h]; exact hl
      · split at h
        · injection h with h _; rw [← h]; exact hl
        · cases ha : attrP (blanks s) l with
          | bad e1 n1 => rw [ha] at h; cases h
          | ok l2 s2 =>
            rw [ha] at h
            obtain ⟨_, _, _, _, _, h1, _, _, _, rfl⟩ := attrP_ok ha
            exact ih s2 _ l' r (by simp; omega) h
theorem tokP_attrs {s r : Bytes} {x : Tok} (h : tokP s = .ok x r) : x.attrs.length ≤ 20 := by
  unfold tokP at h
  split at h
  · cases h
  · obtain ⟨name, s1, _, _, rfl⟩ := closeP_ok h; simp
  · obtain ⟨name, s1, l, s2, k, _, h2, _, rfl⟩ := openP_ok h
    exact attrsF_num _ _ _ _ _ (by simp) h2
  · obtain ⟨t, _, _, rfl⟩ := textP_ok h; simp
end Pl

/- Plain words: what is left is the text's end; how long a token's words are. -/
namespace Pl
theorem blanks_suf (s : Bytes) : blanks s <:+ s := List.dropWhile_suffix _
theorem nameP_suf {s nm r : Bytes} (h : nameP s = .ok nm r) : r <:+ s := ⟨nm, (nameP_ok h).1.symm⟩
theorem mustP_suf {c : UInt8} {s r : Bytes} {u : Unit} (h : mustP c s = .ok u r) : r <:+ s := ⟨[c], by rw [mustP_ok h]; rfl⟩
theorem enc_len (r : Nat) : (enc r).length ≤ 4 := by
  unfold enc
  repeat' split
  all_goals simp
theorem get_len : ∀ (k : Nat) (s v : Bytes), s.length ≤ k → get s = .ok v → v.length ≤ 4 * s.length := by
  intro k
  induction k with
  | zero =>
    intro s v h hg
    have : s = [] := List.length_eq_zero_iff.1 (by omega)
    subst this
    injection hg with hg
    subst hg
    simp
  | succ k ih =>
    intro s v h hg
    by_cases h0 : s = []
    · subst h0; injection hg with hg; subst hg; simp
    · cases ho : one s with
      | error e' => rw [get_err h0 ho] at hg; cases hg
      | ok q =>
        obtain ⟨o, n⟩ := q
        have h1 := one_ok ho
        rw [get_ok ho] at hg
        cases hk : get (s.drop n) with
        | error q => rw [hk] at hg; cases hg
        | ok t =>
          rw [hk] at hg
          simp only at hg
          injection hg with hg
          have h2 := ih (s.drop n) t (by simp; omega) hk
          obtain ⟨g1, g2, r, _, g3⟩ := h1
          have := enc_len r
          rw [List.length_drop] at h2
          rw [← hg, g3, List.length_append]
          omega
theorem lines_lenF : ∀ (k : Nat) (s : Bytes), s.length ≤ k → (lines s).length ≤ s.length := by
  intro k
  induction k with
  | zero =>
    intro s h
    have : s = [] := List.length_eq_zero_iff.1 (by omega)
    subst this
    simp [lines]
  | succ k ih =>
    intro s h
    match s with
    | [] => simp [lines]
    | [c] => unfold lines; split <;> simp
    | c :: d :: t =>
      have h1 := ih t (by simp at h; omega)
      have h2 := ih (d :: t) (by simp at h ⊢; omega)
      simp only [List.length_cons] at h2
      unfold lines
      split
      · split <;> simp <;> omega
      · simp; omega
theorem lines_len (s : Bytes) : (lines s).length ≤ s.length := lines_lenF _ s (Nat.le_refl _)
theorem valueP_suf {s v r : Bytes} (h : valueP s = .ok v r) : r <:+ s ∧ v.length ≤ 4 * s.length := by
  unfold valueP at h
  split at h
  · cases h
  · rename_i q t
    split at h
    · simp only at h
      split at h
      · cases h
      · split at h
        · cases h
        · split at h
          · injection h with h1 h2
            subst h1
            rw [← h2]
            exact ⟨(List.drop_suffix _ _).trans (List.suffix_cons _ _), by simp⟩
          · rename_i v' hg
            injection h with h1 h2
            subst h1
            rw [← h2]
            refine ⟨(List.drop_suffix _ _).trans (List.suffix_cons _ _), ?_⟩
            have g1 := get_len _ _ _ (Nat.le_refl _) hg
            have g2 := lines_len (t.takeWhile (· != q))
            have g3 : (t.takeWhile (· != q)).length ≤ t.length := (List.takeWhile_prefix _).length_le
            unfold flat at g1
            rw [List.length_map] at g1
            simp only [List.length_cons]
            omega
    · cases h
theorem attrP_suf {s r : Bytes} {l l' : List (Bytes × Bytes)} (h : attrP s l = .ok l' r) : r <:+ s ∧ ∃ a : Bytes × Bytes, l' = l ++ [a] ∧ a.1.length ≤ 400 ∧ a.2.length ≤ 4 * s.length := by
  obtain ⟨name, s1, s3, v, h1, _, _, h2, h3, rfl⟩ := attrP_ok h
  have g1 := nameP_suf h1
  have g2 := blanks_suf s1
  rw [h2] at g2
  have g3 := (List.suffix_cons 61 s3).trans (g2.trans g1)
  have g4 := valueP_suf h3
  have g5 := (blanks_suf s3).trans g3
  exact ⟨g4.1.trans g5, _, rfl, (nameP_ok h1).2.2.1, Nat.le_trans g4.2 (Nat.mul_le_mul_left _ g5.length_le)⟩
def SmallA (L : Nat) (l : List (Bytes × Bytes)) : Prop := ∀ a ∈ l, a.1.length ≤ 400 ∧ a.2.length ≤ 4 * L
theorem attrsF_suf (L : Nat) : ∀ (k : Nat) (s : Bytes) (l l' : List (Bytes × Bytes)) (r : Bytes), attrsF k s l = .ok l' r → s.length ≤ L → SmallA L l → r <:+ s ∧ SmallA L l' := by
  intro k
  induction k with
  | zero => intro s l l' r h _ hl; injection h with h1 h; rw [← h, ← h1]; exact ⟨List.suffix_refl _, hl⟩
  | succ k ih =>
    intro s l l' r h hL hl
    have hb := blanks_suf s
    unfold attrsF at h
    simp only at h
    split at h
    · injection h with h1 h; rw [← h, ← h1]; exact ⟨List.suffix_refl _, hl⟩
    · split at h
      · injection h with h1 h; rw [← h, ← h1]; exact ⟨hb, hl⟩
      · split at h
        · injection h with h1 h; rw [← h, ← h1]; exact ⟨hb, hl⟩
        · cases ha : attrP (blanks s) l with
          | bad e1 n1 => rw [ha] at h; cases h
          | ok l2 s2 =>
            rw [ha] at h
            obtain ⟨h2, a, rfl, h3, h4⟩ := attrP_suf ha
            have hbl := hb.length_le
            have h2l := h2.length_le
            obtain ⟨g1, g2⟩ := ih s2 _ l' r h (by omega) (fun b hb' => by
              rw [List.mem_append] at hb'
              rcases hb' with hb' | hb'
              · exact hl b hb'
              · rw [List.mem_singleton] at hb'; subst hb'; exact ⟨h3, by omega⟩)
            exact ⟨g1.trans (h2.trans hb), g2⟩
theorem endsP_suf {s r : Bytes} {k : Int} (h : endsP s = .ok k r) : r <:+ s := by
  rcases endsP_ok h with ⟨rfl, _⟩ | ⟨rfl, _⟩
  · exact ⟨[47, 62], rfl⟩
  · exact ⟨[62], rfl⟩
/-- the words of a token that has been told of a text of this length -/
def SmallW (L : Nat) (x : Tok) : Prop := x.name.length ≤ 400 ∧ x.text.length ≤ 4 * L ∧ x.attrs.length ≤ 20 ∧ SmallA L x.attrs
theorem tokP_suf {s r : Bytes} {x : Tok} (h : tokP s = .ok x r) : r <:+ s ∧ SmallW s.length x := by
  have hn := tokP_attrs h
  unfold tokP at h
  split at h
  · cases h
  · rename_i t
    obtain ⟨name, s1, h1, h2, rfl⟩ := closeP_ok h
    have g1 := nameP_suf h1
    have g2 := blanks_suf s1
    rw [h2] at g2
    refine ⟨(List.suffix_cons 62 r).trans (g2.trans (g1.trans ⟨[60, 47], rfl⟩)), (nameP_ok h1).2.2.1, by simp, hn, ?_⟩
    intro a ha; simp at ha
  · rename_i t _
    obtain ⟨name, s1, l, s2, k, h1, h2, h3, rfl⟩ := openP_ok h
    have g1 := nameP_suf h1
    have gl := g1.length_le
    obtain ⟨g2, g3⟩ := attrsF_suf (t.length + 1) _ s1 [] l s2 h2 (by omega) (by intro a ha; simp at ha)
    have g4 := endsP_suf h3
    exact ⟨g4.trans (g2.trans (g1.trans (List.suffix_cons _ _))), (nameP_ok h1).2.2.1, by simp, hn, g3⟩
  · obtain ⟨t, h1, rfl, rfl⟩ := textP_ok h
    have g1 := get_len _ _ _ (Nat.le_refl _) h1
    have g3 : (s.takeWhile (· != 60)).length ≤ s.length := (List.takeWhile_prefix _).length_le
    refine ⟨List.drop_suffix _ _, by simp, by show t.length ≤ _; omega, hn, ?_⟩
    intro a ha; simp at ha
theorem SmallW.mono {L L' : Nat} {x : Tok} (h : SmallW L x) (hl : L ≤ L') : SmallW L' x :=
  ⟨h.1, by have := h.2.1; omega, h.2.2.1, fun a ha => ⟨(h.2.2.2 a ha).1, by have := (h.2.2.2 a ha).2; omega⟩⟩
theorem all_small : ∀ (k : Nat) (s : Bytes) (l : List Tok), s.length ≤ k → all s = .ok l → l.length ≤ s.length ∧ ∀ x ∈ l, SmallW s.length x := by
  intro k
  induction k with
  | zero =>
    intro s l h hs
    have : s = [] := List.length_eq_zero_iff.1 (by omega)
    subst this
    injection hs with hs
    subst hs
    exact ⟨by simp, by simp⟩
  | succ k ih =>
    intro s l h hs
    by_cases h0 : s = []
    · subst h0
      injection hs with hs
      subst hs
      exact ⟨by simp, by simp⟩
    · cases ht : tokP s with
      | bad e n => rw [all_bad h0 ht] at hs; cases hs
      | ok x r =>
        have hlt := tokP_lt ht
        rw [all_ok ht] at hs
        cases hr : all r with
        | error p => rw [hr] at hs; cases hs
        | ok l2 =>
          rw [hr] at hs
          simp only at hs
          injection hs with hs
          subst hs
          obtain ⟨i1, i2⟩ := ih r l2 (by omega) hr
          refine ⟨by simp; omega, ?_⟩
          intro y hy
          rw [List.mem_cons] at hy
          rcases hy with rfl | hy
          · exact (tokP_suf ht).2
          · exact (i2 y hy).mono (by omega)
theorem suf_drop {r s : Bytes} (h : r <:+ s) : r = s.drop (s.length - r.length) := by
  obtain ⟨a, rfl⟩ := h
  rw [List.length_append, Nat.add_sub_cancel, List.drop_left]
/-- where something is wrong lies within the text -/
theorem all_place : ∀ (k : Nat) (s : Bytes) (p : Nat) (e : Int), s.length ≤ k → all s = .error (p, e) → p ≤ s.length ∧ e ≠ 0 := by
  intro k
  induction k with
  | zero =>
    intro s p e h hs
    have : s = [] := List.length_eq_zero_iff.1 (by omega)
    subst this
    cases hs
  | succ k ih =>
    intro s p e h hs
    by_cases h0 : s = []
    · subst h0; cases hs
    · cases ht : tokP s with
      | bad e1 n =>
        rw [all_bad h0 ht] at hs
        injection hs with hs; injection hs with h1 h2
        have := tokP_wrong ht
        exact ⟨by omega, by rw [← h2]; exact this.1⟩
      | ok x r =>
        have hlt := tokP_lt ht
        rw [all_ok ht] at hs
        cases hr : all r with
        | error q =>
          obtain ⟨q1, q2⟩ := q
          rw [hr] at hs
          simp only at hs
          injection hs with hs; injection hs with h1 h2
          have := ih r q1 q2 (by omega) hr
          exact ⟨by omega, by rw [← h2]; exact this.2⟩
        | ok l2 => rw [hr] at hs; cases hs
end Pl

/- Plain law: blanks ahead of a tag's end make no difference. -/
namespace Pl

theorem good_blanks {n : Bytes} (g : GoodName n) {b : Bytes} (hb : ∀ c ∈ b, blankB c = true) {c : UInt8} {t : Bytes} (hc : c = 62 ∨ c = 47) : nameP (n ++ (b ++ c :: t)) = .ok n (b ++ c :: t) := by
  cases b with
  | nil => exact g t c (by rcases hc with rfl | rfl <;> decide) (by rcases hc with rfl | rfl <;> decide)
  | cons y ys =>
    have hy := hb y (by simp)
    simp only [blankB, isBlank, Bool.or_eq_true, beq_iff_eq] at hy
    refine g _ y (by omega) ?_
    rcases hy with ((hy | hy) | hy) | hy <;> rw [hy] <;> decide

theorem take_end (p E : Bytes) : (p ++ E).take ((p ++ E).length - E.length) = p ∧ (p ++ E).drop ((p ++ E).length - E.length) = E := by
  have h : (p ++ E).length - E.length = p.length := by rw [List.length_append]; omega
  rw [h]
  exact ⟨List.take_left, List.drop_left⟩

def endL (x : Tok) : Nat := if x.kind = 3 then 2 else 1
theorem blanksIn {x : Tok} {a : Bytes} (h : putT x = some a) (hk : x.kind ≠ 4) (b : Bytes) (hb : ∀ c ∈ b, blankB c = true) :
    tokP (a.take (a.length - endL x) ++ b ++ a.drop (a.length - endL x)) = .ok x [] := by
  have hp : a = write x ∧ tokP a = .ok x [] := by
    unfold putT at h
    split at h
    · rename_i ht; injection h with h; subst h; exact ⟨rfl, ht⟩
    · cases h
  obtain ⟨ha, ht⟩ := hp
  by_cases h2 : x.kind = 2
  · have hw : a = 60 :: 47 :: (x.name ++ [62]) := by rw [ha]; unfold write; rw [if_neg hk, if_pos h2]; simp
    rw [hw] at ht
    obtain ⟨name, s1, g1, g2, hx⟩ := closeP_ok (s := x.name ++ [62]) ht
    have hn : x.name = name := by rw [hx]
    have hE : endL x = ([62] : Bytes).length := by unfold endL; rw [h2]; rfl
    have hsp := take_end (60 :: 47 :: x.name) [62]
    rw [hE, hw, show (60 : UInt8) :: 47 :: (x.name ++ [62]) = (60 :: 47 :: x.name) ++ [62] from rfl, hsp.1, hsp.2]
    have g := good_of g1
    rw [← hn] at g
    rw [show (60 : UInt8) :: 47 :: x.name ++ b ++ [62] = 60 :: 47 :: (x.name ++ (b ++ [62])) by simp]
    show closeP _ = _
    rw [closeP_mk (good_blanks g hb (.inl rfl)) (by rw [blanks_all hb]; exact blanks_no [] (by decide)), hn, ← hx]
  · have hz : ∃ (E : Bytes) (c : UInt8) (t : Bytes), E.length = endL x ∧ E = c :: t ∧ (c = 62 ∨ c = 47) ∧ (a = 60 :: (x.name ++ (writeA x.attrs ++ E)) ∨ a = []) := by
      by_cases h1 : x.kind = 1
      · exact ⟨[62], 62, [], by unfold endL; rw [if_neg (by omega)]; rfl, rfl, .inl rfl, .inl (by rw [ha]; unfold write; rw [if_neg hk, if_neg h2, if_pos h1]; simp)⟩
      · by_cases h3 : x.kind = 3
        · exact ⟨[47, 62], 47, [62], by unfold endL; rw [if_pos h3]; rfl, rfl, .inr rfl, .inl (by rw [ha]; unfold write; rw [if_neg hk, if_neg h2, if_neg h1, if_pos h3]; simp)⟩
        · exact ⟨[62], 62, [], by unfold endL; rw [if_neg h3]; rfl, rfl, .inl rfl, .inr (by rw [ha]; unfold write; rw [if_neg hk, if_neg h2, if_neg h1, if_neg h3])⟩
    obtain ⟨E, c, t, hE, hcE, hc, hw⟩ := hz
    have hw : a = 60 :: (x.name ++ (writeA x.attrs ++ E)) := by
      rcases hw with hw | hw
      · exact hw
      · rw [hw] at ht; cases ht
    have ht0 := ht
    rw [hw] at ht
    have h47 : ∀ v, x.name ++ (writeA x.attrs ++ E) ≠ 47 :: v := by
      intro v e
      rw [e] at ht
      obtain ⟨name, s1, g1, g2, hx⟩ := closeP_ok (s := v) ht
      exact h2 (by rw [hx])
    rw [tokP_open h47] at ht
    obtain ⟨name, s1, l, s2, k, g1, g2, g3, hx⟩ := openP_ok ht
    have hn : x.name = name := by rw [hx]
    have hl : x.attrs = l := by rw [hx]
    have hkk : x.kind = k := by rw [hx]
    subst hn; subst hl; subst hkk
    have e1 := (nameP_ok g1).1
    have e2 : s1 = writeA x.attrs ++ E := (List.append_cancel_left e1).symm
    have hs2 : s2 = E := by
      obtain ⟨m, hm, hg⟩ := attrsF_good _ _ _ _ _ (Nat.lt_succ_self _) g2
      simp only [List.nil_append] at hm
      have := attrsF_put x.attrs _ [] c t (by rw [hm]; exact hg) (Nat.lt_succ_self _) hc
      rw [← hcE, ← e2] at this
      have g2' : attrsF (s1.length + 1) s1 [] = .ok x.attrs s2 := g2
      rw [this] at g2'
      injection g2' with _ h2; exact h2.symm
    subst hs2
    have g2' : attrsF (s1.length + 1) s1 [] = .ok x.attrs s2 := g2
    rw [hcE] at g2'
    obtain ⟨u, hu1, hu2, hu3⟩ := attrsF_blanks (s1.length + 1) s1 [] x.attrs c t b (Nat.lt_succ_self _) g2' hc hb
    have hfin : openP (x.name ++ (u ++ b ++ c :: t)) = .ok x [] := by
      have hname : nameP (x.name ++ (u ++ b ++ c :: t)) = .ok x.name (u ++ b ++ c :: t) := by
        have g := good_of g1
        rcases hu3 with rfl | ⟨d, v, rfl, hd⟩
        · rw [List.nil_append]; exact good_blanks g hb hc
        · simp only [blankB, isBlank, Bool.or_eq_true, beq_iff_eq] at hd
          refine g _ d (by omega) ?_
          rcases hd with ((hd | hd) | hd) | hd <;> rw [hd] <;> decide
      have hat : attrsP (u ++ b ++ c :: t) = .ok x.attrs s2 := by
        unfold attrsP
        have hlen : (u ++ b ++ c :: t).length + 1 = s1.length + 1 + b.length := by rw [hu1]; simp; omega
        rw [hlen, hu2, hcE]
      rw [openP_mk hname hat g3, ← hx]
    have hsp := take_end (60 :: (x.name ++ u)) s2
    have haa : a = (60 :: (x.name ++ u)) ++ s2 := by rw [hw, ← e2, hu1, hcE]; simp
    rw [haa, ← hE, hsp.1, hsp.2]
    rw [show (60 : UInt8) :: (x.name ++ u) ++ b ++ s2 = 60 :: (x.name ++ (u ++ b ++ c :: t)) by rw [hcE]; simp]
    obtain ⟨d, w, hd, _, _, hd47⟩ := good_first (good_of g1)
    rw [tokP_open (by intro v hv; rw [hd] at hv; injection hv with hv _; exact hd47 hv)]
    exact hfin

/-! how long a token's text is -/
theorem escs_len6 (s : Bytes) : (escs s).length ≤ 6 * s.length := by
  induction s with
  | nil => simp [escs]
  | cons c t ih =>
    have h1 : (esc c).length ≤ 6 := by unfold esc; split <;> simp
    have h2 : escs (c :: t) = esc c ++ escs t := rfl
    rw [h2, List.length_append, List.length_cons]; omega
theorem escaped_len6 (s : Bytes) : (escaped s).length ≤ 6 * s.length := by
  unfold escaped put
  by_cases h : isText s = true
  · rw [if_pos h]; exact escs_len6 s
  · rw [if_neg h]; simp
end Pl
