import Derived.Test.YtlcjphbjddbgkaaLa
import Derived.Test.YtlcjphbjddbgkaaVx0
set_option linter.unusedVariables false
set_option linter.unusedSimpArgs false
namespace Go.Lx
open Go.Vc

/-- it hands back this, and our blocks are as they were -/
def Ret (v : Value) (F : Heap) (e : Ending) (I : Imm) (G : Heap) : Prop := e = .returned v ∧ G = F
theorem Tri.ret {Pr : Program} {f : FuncId} {args : Array Value} {I : Imm} {F : Heap} {v : Value} {Q : Ending → Imm → Heap → Prop} (h : Tri Pr f args I F (Ret v F))
    (k : ∀ I', Imm.le I I' → Q (.returned v) I' F) : Tri Pr f args I F Q :=
  h.mono fun e I' G hl ⟨he, hG⟩ => by subst he; subst hG; exact k I' hl

theorem digit_spec (c : Int) (I : Imm) (F : Heap) : Tri P 62 #[.int .u8 c] I F (Ret (.bool (digitB c)) F) := by
  refine lex_digit.vc ⟨fun h => ⟨?_, rfl⟩, fun h => ⟨?_, rfl⟩⟩ <;> simp [digitB, h]
theorem small_spec (c : Int) (I : Imm) (F : Heap) : Tri P 46 #[.int .u8 c] I F (Ret (.bool (smallB c)) F) := by
  refine lex_small.vc ⟨fun h => ⟨?_, rfl⟩, fun h => ⟨?_, rfl⟩⟩ <;> simp [smallB, h]
theorem inner_spec (c : Int) (I : Imm) (F : Heap) : Tri P 47 #[.int .u8 c] I F (Ret (.bool (innerB c)) F) := by
  refine lex_inner.vc ?_
  unfold lex_inner.V
  refine Tri.ret (small_spec c I F) fun I1 h1 => ⟨_, rfl, F, .refl _, fun hs => ⟨?_, rfl⟩, fun hs => ?_⟩
  · simp [innerB, hs]
  · refine Tri.ret (digit_spec c I1 F) fun I2 h2 => ⟨_, rfl, F, .refl _, fun hd => ⟨?_, rfl⟩, fun hd => ⟨?_, rfl⟩⟩
    · simp [innerB, hd]
    · simp [innerB, hs, hd]
theorem no10_spec (c : Int) (I : Imm) (F : Heap) : Tri P 76 #[.int .u8 c] I F (Ret (.bool (no10 c)) F) :=
  lex_skip_1.vc ⟨rfl, rfl⟩

/-- a text is no longer than memory is -/
def Short (s : ByteArray) : Prop := s.size ≤ 140737488351232

theorem run_spec {s : ByteArray} (hs : Short s) {i : Int} (h0 : 0 ≤ i) (h1 : i ≤ s.size) {p : Int → Bool} {on : Nat} (hp : ∀ c I F, Tri P on #[.int .u8 c] I F (Ret (.bool (p c)) F)) (hen : Enters P on) (I : Imm) (F : Heap) :
    Tri P 64 #[.string s, .int .i64 i, .func (.func on) #[] #[]] I F (Ret (.int .i64 (runAt p s i)) F) := by
  unfold Short at hs
  refine lex_run.vc (fun j m I' F' => 0 ≤ j ∧ j ≤ s.size ∧ m = (s.size - j).toNat ∧ runAt p s j = runAt p s i ∧ F' = F) ?_
  unfold lex_run.V
  refine ⟨⟨_, h0, h1, rfl, rfl, rfl⟩, fun j m I1 F1 hI ⟨g0, g1, gm, gr, gF⟩ => ⟨fun hlt => ?_, fun hlt => ?_⟩⟩
  · have hlt : j < (s.size : Int) := by simpa using hlt
    refine ⟨⟨g0, hlt⟩, hen, ?_⟩
    subst gF
    have := hp (bt s j) I1 F1
    refine Tri.ret (by simpa using this) fun I2 h2 => ⟨_, rfl, F1, .refl _, fun hc => ?_, fun hc => ⟨?_, rfl⟩⟩
    · refine ⟨m - 1, by omega, ?_⟩
      rw [w64 (by omega)]
      rw [runAt_step hlt, if_pos hc] at gr
      exact ⟨by omega, by omega, by omega, gr, rfl⟩
    · rw [runAt_step hlt, if_neg (by simpa using hc)] at gr
      rw [gr]
  · have hlt : ¬ j < (s.size : Int) := by simpa using hlt
    refine ⟨?_, gF⟩
    rw [runAt_end (by omega)] at gr
    rw [gr]

theorem enters62 : Enters P 62 := enters_of_good (by kernel_rfl)
theorem enters47 : Enters P 47 := enters_of_good (by kernel_rfl)
theorem enters76 : Enters P 76 := enters_of_good (by kernel_rfl)

end Go.Lx
