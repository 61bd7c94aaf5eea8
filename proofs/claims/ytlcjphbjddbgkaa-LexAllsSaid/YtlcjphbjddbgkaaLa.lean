import Derived.Test.YtlcjphbjddbgkaaVi
set_option linter.unusedVariables false
namespace Go.Lx
open Go.Vc

/-! ### the tokens of a text, plainly -/
def smallB (c : Int) : Bool := decide (97 ≤ c) && decide (c ≤ 122)
def digitB (c : Int) : Bool := decide (48 ≤ c) && decide (c ≤ 57)
def innerB (c : Int) : Bool := smallB c || digitB c || (c == 95)
def no10 (c : Int) : Bool := c != 10

theorem bt_range (s : ByteArray) (i : Int) : 0 ≤ bt s i ∧ bt s i < 256 := by
  unfold bt; have := ((s[i.toNat]?).getD 0).toNat_lt; omega

/-- the place behind the bytes that go on -/
def runF (p : Int → Bool) (s : ByteArray) : Nat → Int → Int
  | 0, i => i
  | n + 1, i => if p (bt s i) then runF p s n (i + 1) else i
def runAt (p : Int → Bool) (s : ByteArray) (i : Int) : Int := runF p s (s.size - i).toNat i
theorem runAt_end {p : Int → Bool} {s : ByteArray} {i : Int} (h : (s.size : Int) ≤ i) : runAt p s i = i := by
  unfold runAt; rw [show ((s.size : Int) - i).toNat = 0 by omega]; rfl
theorem runAt_step {p : Int → Bool} {s : ByteArray} {i : Int} (h : i < (s.size : Int)) : runAt p s i = if p (bt s i) then runAt p s (i + 1) else i := by
  unfold runAt
  obtain ⟨n, hn⟩ : ∃ n, ((s.size : Int) - i).toNat = n + 1 := ⟨((s.size : Int) - i).toNat - 1, by omega⟩
  rw [hn, show ((s.size : Int) - (i + 1)).toNat = n by omega]; rfl
theorem runF_le (p : Int → Bool) (s : ByteArray) : ∀ (n : Nat) (i : Int), i ≤ runF p s n i ∧ runF p s n i ≤ i + n
  | 0, i => by simp [runF]
  | n + 1, i => by
    have := runF_le p s n (i + 1)
    unfold runF; split <;> omega
theorem runAt_le {p : Int → Bool} {s : ByteArray} {i : Int} (h : i ≤ (s.size : Int)) : i ≤ runAt p s i ∧ runAt p s i ≤ s.size := by
  have := runF_le p s (s.size - i).toNat i
  unfold runAt; omega
/-- behind it nothing goes on -/
theorem runAt_stops {p : Int → Bool} {s : ByteArray} {i : Int} (h : i ≤ (s.size : Int)) (hl : runAt p s i < s.size) : p (bt s (runAt p s i)) = false := by
  obtain ⟨n, hn⟩ : ∃ n : Nat, n = (s.size - i).toNat := ⟨_, rfl⟩
  induction n generalizing i with
  | zero => rw [runAt_end (by omega)] at hl; omega
  | succ n ih =>
    rw [runAt_step (by omega)] at hl ⊢
    split at hl
    · rename_i hp; rw [if_pos hp]; exact ih (by omega) hl (by omega)
    · rename_i hp; rw [if_neg hp]; simpa using hp

/-- the place behind blanks and remarks; r: within a remark -/
def blank (c : Int) : Bool := c == 32 || c == 9 || c == 10 || c == 13
def remB (c : Int) (r : Bool) : Bool := if c = 35 then true else if c = 10 then false else r
def overF (s : ByteArray) : Nat → Bool → Int → Int
  | 0, _, i => i
  | n + 1, r, i => if !(remB (bt s i) r) && !blank (bt s i) then i else overF s n (remB (bt s i) r) (i + 1)
def overR (s : ByteArray) (r : Bool) (i : Int) : Int := overF s (s.size - i).toNat r i
def overAt (s : ByteArray) (i : Int) : Int := overR s false i
theorem overR_end {s : ByteArray} {r : Bool} {i : Int} (h : (s.size : Int) ≤ i) : overR s r i = i := by
  unfold overR; rw [show ((s.size : Int) - i).toNat = 0 by omega]; rfl
theorem overR_step {s : ByteArray} {r : Bool} {i : Int} (h : i < (s.size : Int)) : overR s r i =
    if !(remB (bt s i) r) && !blank (bt s i) then i else overR s (remB (bt s i) r) (i + 1) := by
  unfold overR
  obtain ⟨n, hn⟩ : ∃ n, ((s.size : Int) - i).toNat = n + 1 := ⟨((s.size : Int) - i).toNat - 1, by omega⟩
  rw [hn, show ((s.size : Int) - (i + 1)).toNat = n by omega]; rfl
theorem overF_le (s : ByteArray) : ∀ (n : Nat) (r : Bool) (i : Int), i ≤ overF s n r i ∧ overF s n r i ≤ i + n
  | 0, r, i => by simp [overF]
  | n + 1, r, i => by
    unfold overF
    have := overF_le s n (remB (bt s i) r) (i + 1)
    split <;> omega
theorem overAt_le {s : ByteArray} {i : Int} (h : i ≤ (s.size : Int)) : i ≤ overAt s i ∧ overAt s i ≤ s.size := by
  have := overF_le s (s.size - i).toNat false i
  unfold overAt overR; omega
theorem overAt_blank {s : ByteArray} {i : Int} (h : i < (s.size : Int)) (hb : blank (bt s i) = true) : overAt s i = overAt s (i + 1) := by
  have h35 : bt s i ≠ 35 := by intro e; rw [e] at hb; simp [blank] at hb
  unfold overAt; rw [overR_step h]; simp [remB, h35, hb]
theorem overAt_token {s : ByteArray} {i : Int} (h : i < (s.size : Int)) (hb : blank (bt s i) = false) (h35 : bt s i ≠ 35) : overAt s i = i := by
  have h10 : bt s i ≠ 10 := by intro e; rw [e] at hb; simp [blank] at hb
  unfold overAt; rw [overR_step h]; simp [remB, h35, h10, hb]
theorem overR_remark {s : ByteArray} {i : Int} (h : i ≤ (s.size : Int)) : overR s true i = overAt s (runAt no10 s i) := by
  obtain ⟨n, hn⟩ : ∃ n : Nat, n = (s.size - i).toNat := ⟨_, rfl⟩
  induction n generalizing i with
  | zero => rw [runAt_end (by omega), overR_end (by omega)]; unfold overAt; rw [overR_end (by omega)]
  | succ n ih =>
    rw [runAt_step (by omega)]
    by_cases h10 : bt s i = 10
    · have hp : no10 (bt s i) = false := by simp [no10, h10]
      rw [hp]
      simp only [Bool.false_eq_true, if_false]
      unfold overAt
      rw [overR_step (r := true) (by omega), overR_step (r := false) (by omega)]
      simp [remB, h10]
    · have hp : no10 (bt s i) = true := by simp [no10, h10]
      rw [hp]
      simp only [if_true]
      rw [← ih (by omega) (by omega), overR_step (r := true) (by omega)]
      have : remB (bt s i) true = true := by unfold remB; split <;> simp_all
      simp [this]
theorem overAt_remark {s : ByteArray} {i : Int} (h : i < (s.size : Int)) (hb : bt s i = 35) : overAt s i = overAt s (runAt no10 s i) := by
  rw [runAt_step h, show no10 (bt s i) = true by simp [no10, hb], if_pos rfl, ← overR_remark (by omega)]
  unfold overAt; rw [overR_step h]; simp [remB, hb]
/-- where it ends a token stands, or nothing -/
theorem overAt_stops {s : ByteArray} {i : Int} (h : i ≤ (s.size : Int)) (hl : overAt s i < s.size) : blank (bt s (overAt s i)) = false ∧ bt s (overAt s i) ≠ 35 := by
  have key : ∀ (n : Nat) (r : Bool) (i : Int), i ≤ (s.size : Int) → (s.size - i).toNat = n → overR s r i < s.size → blank (bt s (overR s r i)) = false ∧ bt s (overR s r i) ≠ 35 := by
    intro n
    induction n with
    | zero => intro r i h hn hl; rw [overR_end (by omega)] at hl; omega
    | succ n ih =>
      intro r i h hn hl
      rw [overR_step (by omega)] at hl ⊢
      split at hl
      · rename_i hc
        rw [if_pos hc]
        simp only [Bool.and_eq_true, Bool.not_eq_true'] at hc
        refine ⟨hc.2, fun e => ?_⟩
        rw [e] at hc; simp [remB] at hc
      · rename_i hc
        rw [if_neg hc]
        exact ih _ _ (by omega) (by omega) hl
  exact key _ false i h rfl hl

structure Tok where
  kind : Int
  text : ByteArray
  typ : Int
  n : Int
  pos : Int
inductive TR where
  | ok (t : Tok)
  | bad (e p : Int)
def zTok (p : Int) : Tok := ⟨0, ⟨#[]⟩, 0, 0, p⟩
def cut (s : ByteArray) (i j : Int) : ByteArray := s.extract i.toNat j.toNat

def wordsL : List ByteArray := [⟨#[97, 98, 115]⟩, ⟨#[97, 109, 101, 110, 100]⟩, ⟨#[97, 115]⟩, ⟨#[97, 115, 107]⟩, ⟨#[97, 116]⟩, ⟨#[98, 105, 100]⟩, ⟨#[98, 111, 111, 108]⟩, ⟨#[98, 117, 121]⟩, ⟨#[99, 97, 110, 99, 101, 108]⟩, ⟨#[100, 111]⟩,
  ⟨#[102, 97, 108, 115, 101]⟩, ⟨#[102, 111, 107]⟩, ⟨#[103, 111, 116, 111]⟩, ⟨#[104, 97, 108, 116]⟩, ⟨#[104, 97, 115]⟩, ⟨#[105, 110, 116]⟩, ⟨#[105, 111, 99]⟩, ⟨#[108, 97, 115, 116]⟩, ⟨#[108, 105, 109, 105, 116]⟩, ⟨#[109, 97, 114, 107, 101, 116]⟩,
  ⟨#[109, 97, 120]⟩, ⟨#[109, 105, 110]⟩, ⟨#[110, 111, 119]⟩, ⟨#[111, 102]⟩, ⟨#[111, 112, 101, 110]⟩, ⟨#[112, 111, 115, 116]⟩, ⟨#[112, 114, 105, 99, 101]⟩, ⟨#[113, 116, 121]⟩, ⟨#[114, 101, 103]⟩, ⟨#[115, 101, 108, 108]⟩, ⟨#[115, 101, 116]⟩,
  ⟨#[115, 105, 100, 101]⟩, ⟨#[115, 108, 111, 116]⟩, ⟨#[115, 116, 97, 116, 101]⟩, ⟨#[115, 116, 114, 97, 116, 101, 103, 121]⟩, ⟨#[115, 117, 98, 109, 105, 116]⟩, ⟨#[116, 105, 109, 101]⟩, ⟨#[116, 111]⟩, ⟨#[116, 114, 117, 101]⟩, ⟨#[118, 111, 108, 117, 109, 101]⟩, ⟨#[119, 104, 101, 110]⟩]
def wordB (t : ByteArray) : Bool := wordsL.any fun w => w.toList == t.toList
def nameB (t : ByteArray) : Bool :=
  !(t.toList == []) && decide ((t.size : Int) ≤ 16) && smallB (bt t 0) && !wordB t && decide (runAt innerB t 0 = t.size)

def nameR (s : ByteArray) (i : Int) : TR :=
  let e := runAt innerB s i
  if e - i > 16 then .bad 112 i else .ok ⟨if wordB (cut s i e) then 1 else 2, cut s i e, 0, 0, i⟩
/-- the number that digits say -/
def valF (s : ByteArray) : Nat → Int → Int → Int
  | 0, _, v => v
  | n + 1, i, v => if digitB (bt s i) then valF s n (i + 1) (10 * v + (bt s i - 48)) else v
def valAt (s : ByteArray) (i v : Int) : Int := valF s (s.size - i).toNat i v
theorem valAt_end {s : ByteArray} {i v : Int} (h : (s.size : Int) ≤ i) : valAt s i v = v := by
  unfold valAt; rw [show ((s.size : Int) - i).toNat = 0 by omega]; rfl
theorem valAt_step {s : ByteArray} {i v : Int} (h : i < (s.size : Int)) : valAt s i v = if digitB (bt s i) then valAt s (i + 1) (10 * v + (bt s i - 48)) else v := by
  unfold valAt
  obtain ⟨n, hn⟩ : ∃ n, ((s.size : Int) - i).toNat = n + 1 := ⟨((s.size : Int) - i).toNat - 1, by omega⟩
  rw [hn, show ((s.size : Int) - (i + 1)).toNat = n by omega]; rfl
theorem valF_ge (s : ByteArray) : ∀ (n : Nat) (i v : Int), 0 ≤ v → v ≤ valF s n i v
  | 0, i, v, _ => by simp [valF]
  | n + 1, i, v, hv => by
    unfold valF
    split
    · rename_i hd
      simp only [digitB, Bool.and_eq_true, decide_eq_true_eq] at hd
      have := valF_ge s n (i + 1) (10 * v + (bt s i - 48)) (by omega)
      omega
    · exact Int.le_refl _
theorem valAt_ge {s : ByteArray} {i v : Int} (h : 0 ≤ v) : v ≤ valAt s i v := valF_ge s _ i v h
def typOf (c : Int) : Int := if c = 116 then 4 else if c = 112 then 3 else if c = 113 then 2 else 1
def byteOr0 (s : ByteArray) (i : Int) : Int := if i < s.size then bt s i else 0
def numR (s : ByteArray) (i : Int) : TR :=
  let e := runAt digitB s i
  let t := typOf (byteOr0 s e)
  let e2 := if t = 1 then e else e + 1
  if valAt s i 0 > 9223372036854775807 ∨ (e - i > 1 ∧ bt s i = 48) ∨ (e2 < s.size ∧ (innerB (bt s e2) = true ∨ (65 ≤ bt s e2 ∧ bt s e2 ≤ 90))) then .bad 113 i
  else .ok ⟨3, cut s i e2, t, valAt s i 0, i⟩
def single (c : Int) : Bool := [123, 125, 40, 41, 44, 59, 63, 58, 43, 45, 42, 47, 37].contains c
def markN (s : ByteArray) (i : Int) : Int :=
  let c := bt s i
  let d := byteOr0 s (i + 1)
  if single c then 1 else if c = 38 ∨ c = 124 then (if d = c then 2 else 0) else if c = 61 ∨ c = 33 ∨ c = 60 ∨ c = 62 then (if d = 61 then 2 else 1) else 0
def markR (s : ByteArray) (i : Int) : TR := if markN s i = 0 then .bad 111 i else .ok ⟨4, cut s i (i + markN s i), 0, 0, i⟩
def tokR (s : ByteArray) (f : Int) : TR :=
  let i := overAt s f
  if i = s.size then .ok (zTok i)
  else if digitB (bt s i) then numR s i else if smallB (bt s i) then nameR s i else markR s i

/-! ### values -/
def Tok.v (t : Tok) : Value := .agg #[.int .u8 t.kind, .string t.text, .int .u8 t.typ, .int .i64 t.n, .int .i64 t.pos]

theorem w64 {n : Int} (h : -9223372036854775808 ≤ n ∧ n ≤ 9223372036854775807) : IntKind.wrap .i64 n = n := by
  simp only [IntKind.wrap, IntKind.bits, IntKind.signed]; simp; split <;> omega
theorem w8 {n : Int} (h : 0 ≤ n ∧ n ≤ 255) : IntKind.wrap .u8 n = n := by
  simp only [IntKind.wrap, IntKind.bits, IntKind.signed]; simp; omega
end Go.Lx
