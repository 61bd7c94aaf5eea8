import Derived.Test.YtlcjphbjddbgkaaVt
import Derived.Laws.StructEq
set_option linter.unusedVariables false
set_option linter.unusedSimpArgs false
namespace Go.Vc

/-! ### structs that compare part by part -/
def leafEq : Value → Value → Option Bool
  | .int k a, .int k' b => bif k == k' then some (a == b) else none
  | .string a, .string b => some (a.toList == b.toList)
  | .bool a, .bool b => some (a == b)
  | _, _ => none
def leafTy (P : Program) (t : TypeId) : Value → Bool
  | .int _ _ => match P.underlying t with | some (.int _) => true | _ => false
  | .string _ => match P.underlying t with | some .string => true | _ => false
  | .bool _ => match P.underlying t with | some .bool => true | _ => false
  | _ => false
theorem leafEq_run {P : Program} {t : TypeId} {u v : Value} {b : Bool} (h : leafEq u v = some b) (ht : leafTy P t u = true) (d : Nat) (w : World) : (Op.equalIn (d + 1) t u v).run P w = .ok b w := by
  unfold leafEq at h
  split at h
  · rename_i k a k' b'
    cases hk : k == k' with
    | false => rw [hk] at h; cases h
    | true =>
      have : k = k' := by cases k <;> cases k' <;> first | rfl | cases hk
      subst this
      rw [hk] at h
      cases h
      simp only [leafTy] at ht
      split at ht
      · rename_i hu; exact run_equalIn_int w d t k _ a b' hu
      · exact absurd ht (by decide)
  · cases h
    simp only [leafTy] at ht
    split at ht
    · rename_i hu; exact run_equalIn_string w d t _ _ hu
    · exact absurd ht (by decide)
  · cases h
    simp only [leafTy] at ht
    split at ht
    · rename_i hu; exact run_equalIn_bool' w d t _ _ hu
    · exact absurd ht (by decide)
  · cases h
def flatEq (P : Program) (xs ys : Array Value) : List Field → Option Bool
  | [] => some true
  | f :: fs => bif !(f.name == "_") && (match aggB P f.type with | some false => true | _ => false) then
      (match xs[f.offset]?, ys[f.offset]? with
        | some u, some v => bif leafTy P f.type u then (match leafEq u v, flatEq P xs ys fs with | some b, some c => some (b && c) | _, _ => none) else none
        | _, _ => none) else none
theorem part_one {P : Program} {t : TypeId} {cs : Array Value} {o : Nat} {v : Value} (h : aggB P t = some false) (hv : cs[o]? = some v) (w : World) : (part t cs o).run P w = .ok v w := by
  simp [part, Sem.run_bind, isAgg_run h, hv]
theorem flatEq_run {P : Program} {xs ys : Array Value} (d : Nat) : ∀ {fs : List Field} {b : Bool}, flatEq P xs ys fs = some b → ∀ w, (Op.eqFields (d + 1) xs ys fs).run P w = .ok b w
  | [], b, h, w => by cases h; rfl
  | f :: fs, b, h, w => by
    unfold flatEq at h
    cases hc : (!(f.name == "_") && (match aggB P f.type with | some false => true | _ => false)) with
    | false => rw [hc] at h; cases h
    | true =>
      rw [hc] at h
      simp only [cond_true] at h
      rw [Bool.and_eq_true] at hc
      have hname : f.name ≠ "_" := by simpa using hc.1
      have hagg : aggB P f.type = some false := by
        have := hc.2
        split at this
        · assumption
        · cases this
      split at h
      · rename_i u v hu hv
        cases hl : leafTy P f.type u with
        | false => rw [hl] at h; cases h
        | true =>
          rw [hl] at h
          simp only [cond_true] at h
          split at h
          · rename_i b' c hb hcc
            cases h
            simp only [Op.eqFields, hname, ne_eq, not_false_eq_true, if_true, Sem.run_bind, part_one hagg hu, part_one hagg hv, Result.andThen_ok, leafEq_run hb hl]
            cases b'
            · simp
            · simp only [Bool.not_true, Bool.false_eq_true, if_false, Bool.true_and]
              exact flatEq_run d hcc w
          · cases h
      · cases h
/-- '==' of two structs -/
theorem struct_eql {P : Program} {t : TypeId} {x y : Operand} {xs ys : Array Value} {b : Bool} (ht : P.underlying t = some (.struct (P.fieldsOf t))) (hp : P.stoodInHeld t = false) (hm : P.eqGuardType P.depth t = false)
    (h : flatEq P xs ys (P.fieldsOf t).toList = some b) : BinRun P .eql t x y (.agg xs) (.agg ys) b := by
  intro w
  simp only [Sem.run_bind, run_eqGuard_agg (P := P) w .eql t x y xs ys hm, Result.andThen_ok, run_eql_struct]
  rw [show (10000 : Nat) = 9998 + 1 + 1 from rfl, run_equalIn_struct w (9998 + 1) t xs ys ht hp, flatEq_run 9998 h]; rfl
theorem struct_neq {P : Program} {t : TypeId} {x y : Operand} {xs ys : Array Value} {b : Bool} (ht : P.underlying t = some (.struct (P.fieldsOf t))) (hp : P.stoodInHeld t = false) (hm : P.eqGuardType P.depth t = false)
    (h : flatEq P xs ys (P.fieldsOf t).toList = some b) : BinRun P .neq t x y (.agg xs) (.agg ys) (!b) := by
  intro w
  simp only [Sem.run_bind, run_eqGuard_agg (P := P) w .neq t x y xs ys hm, Result.andThen_ok, run_neq_struct]
  rw [show (10000 : Nat) = 9998 + 1 + 1 from rfl, run_equalIn_struct w (9998 + 1) t xs ys ht hp, flatEq_run 9998 h]; rfl
end Go.Vc
