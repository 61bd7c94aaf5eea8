import Derived.Test.YtlcjphbjddbgkaaLk
import Derived.Test.YtlcjphbjddbgkaaVu
import Derived.Test.YtlcjphbjddbgkaaVx2
set_option linter.unusedVariables false
set_option linter.unusedSimpArgs false
namespace Go.Lx
open Go.Vc
def tokEq (t u : Tok) : Bool := t.kind == u.kind && (t.text.toList == u.text.toList && (t.typ == u.typ && (t.n == u.n && (t.pos == u.pos && true))))
theorem tokEq_self (t : Tok) : tokEq t t = true := by simp [tokEq]
theorem under49 : P.underlying 49 = some (.struct (P.fieldsOf 49)) := by kernel_rfl
theorem stood49 : P.stoodInHeld 49 = false := by kernel_rfl
theorem guard49 : P.eqGuardType P.depth 49 = false := by kernel_rfl
theorem flat49 (t u : Tok) : flatEq P #[.int .u8 t.kind, .string t.text, .int .u8 t.typ, .int .i64 t.n, .int .i64 t.pos] #[.int .u8 u.kind, .string u.text, .int .u8 u.typ, .int .i64 u.n, .int .i64 u.pos] (P.fieldsOf 49).toList = some (tokEq t u) := by kernel_rfl
theorem tok_eql (t u : Tok) {x y : Operand} : BinRun P .eql 49 x y t.v u.v (tokEq t u) := struct_eql under49 stood49 guard49 (flat49 t u)
theorem tok_neq (t u : Tok) {x y : Operand} : BinRun P .neq 49 x y t.v u.v (!tokEq t u) := struct_neq under49 stood49 guard49 (flat49 t u)

theorem tok_same (t : Tok) {x y : Operand} : BinRun P .eql 49 x y t.v t.v true := by
  have := tok_eql t t (x := x) (y := y)
  rwa [tokEq_self] at this
theorem empty_list : (⟨#[]⟩ : ByteArray).toList = [] := by rw [Lib.toList_data]
theorem nameB_eq {t : ByteArray} (h1 : (t.toList == (⟨#[]⟩ : ByteArray).toList) = false) (h2 : ¬ (t.size : Int) > 16) (h3 : smallB (bt t 0) = true) (h4 : wordB t = false) : nameB t = decide (runAt innerB t 0 = t.size) := by
  unfold nameB
  rw [empty_list] at h1
  rw [h3, h4, h1, decide_eq_true (by omega : (t.size : Int) ≤ 16)]; simp
theorem Name_spec {t : ByteArray} (I : Imm) (F : Heap) : Tri P 19 #[.string t] I F (Ret (.bool (nameB t)) F) := by
  refine lex_Name.vc (fun x i m I' F' => 0 ≤ i ∧ i ≤ t.size ∧ m = (t.size - i).toNat ∧ runAt innerB t i = runAt innerB t 0 ∧ F' = F) ?_
  unfold lex_Name.V
  refine ⟨fun h => ⟨?_, rfl⟩, fun h => ⟨fun h2 => ⟨?_, rfl⟩, fun h2 => ?_⟩⟩
  · rw [show nameB t = false by unfold nameB; rw [empty_list] at h; rw [h]; rfl]
  · rw [show nameB t = false by unfold nameB; rw [decide_eq_false (by have := of_decide_eq_true h2; omega : ¬(t.size : Int) ≤ 16)]; simp]
  have h2 := of_decide_eq_false h2
  have hne : 0 < t.size := by
    rcases Nat.eq_zero_or_pos t.size with h0 | h0
    · have : t = ⟨#[]⟩ := ByteArray.size_eq_zero_iff.1 h0
      rw [this, empty_list] at h; exact absurd h (by decide)
    · exact h0
  refine ⟨⟨by omega, by omega⟩, ?_⟩
  refine Tri.ret (small_spec (bt t 0) I _) fun I1 hI1 => ⟨_, rfl, F, .refl _, fun h3 => ⟨?_, rfl⟩, fun h3 => ?_⟩
  · rw [show nameB t = false by unfold nameB; rw [show smallB (bt t 0) = false by simpa using h3]; simp]
  have h3 : smallB (bt t 0) = true := by simpa using h3
  refine Tri.ret (Word_spec t I1 _) fun I2 hI2 => ⟨_, rfl, F, .refl _, fun h4 => ⟨?_, rfl⟩, fun h4 => ?_⟩
  · rw [show nameB t = false by unfold nameB; rw [h4]; simp]
  rw [nameB_eq h h2 h3 h4]
  refine ⟨⟨_, by omega, by omega, rfl, rfl, rfl⟩, fun x i m I3 F3 hI3 ⟨g0, g1, gm, gr, gF⟩ => ⟨fun hl => ⟨⟨g0, of_decide_eq_true hl⟩, ?_⟩, fun hl => ?_⟩⟩
  · have hl := of_decide_eq_true hl
    subst gF
    refine Tri.ret (inner_spec (bt t i) I3 _) fun I4 hI4 => ⟨_, rfl, F3, .refl _, fun hc => ⟨?_, rfl⟩, fun hc => ?_⟩
    · have hc : innerB (bt t i) = false := by simpa using hc
      rw [runAt_step hl, if_neg (by rw [hc]; exact Bool.false_ne_true)] at gr
      rw [decide_eq_false (by omega)]
    · have hc : innerB (bt t i) = true := by simpa using hc
      rw [runAt_step hl, if_pos hc] at gr
      rw [w64 (by omega)]
      exact ⟨(t.size - (i + 1)).toNat, by omega, by omega, by omega, rfl, gr, rfl⟩
  · have hl := of_decide_eq_false hl
    refine ⟨?_, gF⟩
    rw [runAt_end (by omega)] at gr
    rw [decide_eq_true (by omega)]

theorem short_small {s : ByteArray} (h : (s.size : Int) ≤ 4194304) : Short s := by unfold Short; omega

def sA : ByteArray := ⟨#[98, 105, 100, 43, 50, 112, 32, 62, 61, 32, 108, 105, 109, 32, 35, 32, 115, 111]⟩
def sB : ByteArray := ⟨#[97, 32, 38, 98]⟩
def sC : ByteArray := ⟨#[97, 98, 32, 99, 100]⟩
def two : Tok := ⟨3, ⟨#[50, 112]⟩, 3, 2, 4⟩
def toksA : List Tok := [⟨1, ⟨#[98, 105, 100]⟩, 0, 0, 0⟩, ⟨4, ⟨#[43]⟩, 0, 0, 3⟩, two, ⟨4, ⟨#[62, 61]⟩, 0, 0, 7⟩, ⟨2, ⟨#[108, 105, 109]⟩, 0, 0, 10⟩, zTok 18]
theorem tokens_A : tokensR sA = .ok toksA := by kernel_rfl
theorem tokens_B : tokensR sB = .error (111, 2) := by kernel_rfl
theorem next_C : nextV sC 2 = .tuple #[(⟨2, ⟨#[99, 100]⟩, 0, 0, 3⟩ : Tok).v, .int .i64 5, .int .i64 0] := by kernel_rfl
theorem name_bids : nameB ⟨#[98, 105, 100, 115]⟩ = true := by kernel_rfl
theorem name_bid : nameB ⟨#[98, 105, 100]⟩ = false := by kernel_rfl
theorem word_bid : wordB ⟨#[98, 105, 100]⟩ = true := by kernel_rfl
theorem awake_spec (I : Imm) (F : Heap) : Tri P 10 #[] I F (Ret (.bool true) F) := by
  refine law11_awake.vc ?_
  unfold law11_awake.V
  refine (Tokens_spec (s := sA) (by unfold Short; decide) I F).mono fun e1 I1 G1 hI1 ⟨hG1, h1⟩ => ?_
  rw [tokens_A] at h1
  obtain ⟨a, n, c, he1, hS⟩ := h1
  subst hG1
  have hn : n = 6 := hS.1
  subst hn
  refine ⟨_, _, _, _, _, he1, _, .refl _, ?_⟩
  refine (Tokens_spec (s := sB) (by unfold Short; decide) I1 G1).mono fun e2 I2 G2 hI2 ⟨hG2, h2⟩ => ?_
  rw [tokens_B] at h2
  subst hG2
  refine ⟨_, _, _, _, _, h2, _, .refl _, ?_⟩
  refine ⟨fun h => absurd h (by decide), fun _ => ⟨fun h => absurd h (by decide), fun _ => ⟨fun h => absurd h (by decide), fun _ => ⟨fun h => absurd h (by decide), fun _ => ⟨fun h => absurd h (by decide), fun _ => ?_⟩⟩⟩⟩⟩
  refine Tri.ret (Word_spec _ I2 _) fun I3 hI3 => ⟨_, rfl, _, .refl _, ?_⟩
  refine Tri.ret (Name_spec I3 _) fun I4 hI4 => ⟨_, rfl, _, .refl _, ?_⟩
  refine Tri.ret (Name_spec I4 _) fun I5 hI5 => ⟨_, rfl, _, .refl _, ?_⟩
  refine Tri.ret (Next_spec (s := sC) (by unfold Short; decide) I5 _) fun I6 hI6 => ?_
  rw [next_C]
  refine ⟨_, _, _, _, _, _, _, rfl, _, .refl _, fun b_t b_two => ?_⟩
  have hS6 := hS.mono (Imm.le_trans hI2 (Imm.le_trans hI3 (Imm.le_trans hI4 (Imm.le_trans hI5 hI6))))
  have at2 := hS6.at (i := 2) (by decide) (by decide)
  have at5 := hS6.at (i := 5) (by decide) (by decide)
  obtain ⟨ad2, x2, ha2, hx2, hr2⟩ := at2
  obtain ⟨ad5, x5, ha5, hx5, hr5⟩ := at5
  obtain rfl : x2 = two := (Option.some.inj hx2).symm
  obtain rfl : x5 = zTok 18 := (Option.some.inj hx5).symm
  refine ⟨⟨by decide, by decide⟩, ad2, ha2, _, _, _, _, _, hr2 _, true, tok_same two, fun _ => ⟨⟨by decide, by decide⟩, ad5, ha5, _, _, _, _, _, hr5 _, true, tok_same (zTok 18), ?_, fun h => by (cases h)⟩, fun h => by (cases h)⟩
  intro _
  refine ⟨fun _ => ⟨fun _ => ⟨fun _ => ⟨true, tok_same ⟨2, ⟨#[99, 100]⟩, 0, 0, 3⟩, fun _ => ⟨fun _ => ⟨rfl, rfl⟩, fun h => absurd h (by decide)⟩, fun h => by (cases h)⟩, fun h => ?_⟩, fun h => ?_⟩, fun h => ?_⟩
  · rw [name_bid] at h; cases h
  · rw [name_bids] at h; cases h
  · rw [word_bid] at h; cases h

/-! ### the law of Next -/
theorem nextV_shape (s : ByteArray) (f : Int) : ∃ (t : Tok) (i e : Int), nextV s f = .tuple #[t.v, .int .i64 i, .int .i64 e] := by
  unfold nextV
  repeat' split
  all_goals exact ⟨_, _, _, rfl⟩
theorem LexNexts_spec (s : ByteArray) (f : Int) (I : Imm) (F : Heap) : Tri P 4 #[.string s, .int .i64 f] I F (Ret (.bool true) F) := by
  refine law11_LexNexts.vc ?_
  unfold law11_LexNexts.V
  refine Tri.ret (awake_spec I F) fun I1 hI1 => ⟨_, rfl, _, .refl _, fun h => by (cases h), fun _ => ⟨fun _ => ⟨rfl, rfl⟩, fun h => ?_⟩⟩
  have hs : Short s := short_small (by have := of_decide_eq_false h; omega)
  obtain ⟨t, i, e, hn⟩ := nextV_shape s f
  refine Tri.ret (Next_spec hs I1 _) fun I2 hI2 => ?_
  rw [hn]
  refine ⟨_, _, _, _, _, _, _, rfl, _, .refl _, fun b_t => ?_⟩
  refine Tri.ret (rNext_spec hs I2 _) fun I3 hI3 => ?_
  rw [hn]
  refine ⟨_, _, _, _, _, _, _, rfl, _, .refl _, fun b_u => ⟨_, tok_eql t t, fun _ => ⟨fun _ => ⟨by simp, rfl⟩, fun h => by simp at h⟩, fun h => ?_⟩⟩
  rw [tokEq_self] at h; cases h
end Go.Lx
