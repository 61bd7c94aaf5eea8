import Derived.Test.YtlcjphbjddbgkaaLc
import Derived.Lib.ConvBytes
set_option linter.unusedVariables false
set_option linter.unusedSimpArgs false
namespace Go.Lx
open Go.Vc

theorem mark_spec {s : ByteArray} (hs : Short s) {i : Int} (h0 : 0 ≤ i) (h1 : i < s.size) (I : Imm) (F : Heap) : Tri P 65 #[.string s, .int .i64 i] I F (Ret (.int .i64 (markN s i)) F) := by
  unfold Short at hs
  refine lex_mark.vc ?_
  unfold lex_mark.V
  rw [w64 (by omega)]
  refine ⟨fun hn => ⟨⟨by omega, by simpa using hn⟩, ⟨h0, h1⟩, ?_⟩, fun hn => ⟨⟨h0, h1⟩, ?_⟩⟩
  · have hd : byteOr0 s (i + 1) = bt s (i + 1) := by unfold byteOr0; rw [if_pos (by simpa using hn)]
    have e : markN s i = if single (bt s i) then 1 else if bt s i = 38 ∨ bt s i = 124 then (if bt s (i + 1) = bt s i then 2 else 0) else
      if bt s i = 61 ∨ bt s i = 33 ∨ bt s i = 60 ∨ bt s i = 62 then (if bt s (i + 1) = 61 then 2 else 1) else 0 := by unfold markN; rw [hd]
    rw [e]
    generalize bt s i = c
    generalize bt s (i + 1) = d
    clear e hd hn
    repeat' (first | (with_reducible apply And.intro) | (with_reducible intro h))
    all_goals (refine ⟨?_, rfl⟩; simp_all [single])
  · have hd : byteOr0 s (i + 1) = 0 := by unfold byteOr0; rw [if_neg (by simpa using hn)]
    have e : markN s i = if single (bt s i) then 1 else if bt s i = 38 ∨ bt s i = 124 then (if 0 = bt s i then 2 else 0) else
      if bt s i = 61 ∨ bt s i = 33 ∨ bt s i = 60 ∨ bt s i = 62 then 1 else 0 := by unfold markN; rw [hd]; simp
    rw [e]
    generalize bt s i = c
    clear e hd hn
    repeat' (first | (with_reducible apply And.intro) | (with_reducible intro h))
    all_goals (refine ⟨?_, rfl⟩; simp_all [single])
theorem markN_range (s : ByteArray) (i : Int) : 0 ≤ markN s i ∧ markN s i ≤ 2 := by
  unfold markN; simp only; repeat' split
  all_goals decide
/-- a mark lies within the text -/
theorem markN_le {s : ByteArray} {i : Int} (h : i < (s.size : Int)) : i + markN s i ≤ s.size := by
  have hb : byteOr0 s (i + 1) ≠ 0 → i + 1 < (s.size : Int) := fun hne => by
    unfold byteOr0 at hne; split at hne
    · assumption
    · exact absurd rfl hne
  unfold markN; simp only
  split
  · omega
  · split
    · rename_i hc; split
      · rename_i hd; have := hb (by omega); omega
      · omega
    · split
      · split
        · rename_i hd; have := hb (by omega); omega
        · omega
      · omega

/-! ### numbers -/
def encB (c : Int) : List Value := [.int .u8 c]
def bytesOf (s : ByteArray) : List Int := s.data.toList.map fun b => (b.toNat : Int)
theorem bytesOf_get {s : ByteArray} {k : Nat} (h : k < s.size) : (bytesOf s)[k]? = some (bt s k) := by
  have h' : k < s.data.size := h
  have h2 : s[k]? = some s[k] := by simp [h]
  have h3 : s.data.toList[k]? = some s[k] := by
    have : s.data.toList[k]? = some s.data[k] := by simp [h']
    rw [this]; rfl
  unfold bytesOf bt
  rw [List.getElem?_map, Int.toNat_natCast, h2, h3]
  rfl
theorem cut_size {s : ByteArray} {i j : Int} (h0 : 0 ≤ i) (h1 : i ≤ j) (h2 : j ≤ s.size) : ((cut s i j).size : Int) = j - i := by
  unfold cut; rw [ByteArray.size_extract]; omega
theorem cut_bt {s : ByteArray} {i j k : Int} (h0 : 0 ≤ i) (hk : 0 ≤ k) (h1 : i + k < j) (h2 : j ≤ s.size) : bt (cut s i j) k = bt s (i + k) := by
  have hsz := cut_size (s := s) (i := i) (j := j) h0 (by omega) h2
  unfold bt
  have e1 : (cut s i j)[k.toNat]? = s[(i + k).toNat]? := by
    have hk' : k.toNat < (s.extract i.toNat j.toNat).size := by unfold cut at hsz; omega
    have hi' : (i + k).toNat < s.size := by omega
    have a1 : (s.extract i.toNat j.toNat)[k.toNat]? = some (s.extract i.toNat j.toNat)[k.toNat] := by simp [hk']
    have a2 : s[(i + k).toNat]? = some s[(i + k).toNat] := by simp [hi']
    show (s.extract i.toNat j.toNat)[k.toNat]? = _
    rw [a1, a2, ByteArray.getElem_extract]
    congr 2
    omega
  rw [e1]
theorem conv_spec (t : ByteArray) (I : Imm) (F : Heap) : TriE P (Go.convert 9 70 (.string t)) I F fun v I' G =>
    ∃ (b c : Nat), v = .slice (some ⟨b, 0, none⟩) t.size c ∧ Sl I' 1 encB (some ⟨b, 0, none⟩) t.size (bytesOf t) ∧ G = F := by
  intro w hw
  have hrun := Lib.run_convert_string_bytes (P := P) w 9 70 5 t (u := .string) (by kernel_rfl) (by kernel_rfl) (by kernel_rfl)
  have hheap : (Lib.bytesWorld w 5 t).heap = w.heap.push (.cells (Lib.bytesCells w 5 t) 5 ((Lib.bytesCells w 5 t).size, (Lib.bytesCells w 5 t).size + 1)) := by
    apply Array.ext_getElem?
    intro j
    rw [Array.getElem?_push]
    rcases Nat.lt_trichotomy j w.heap.size with h | h | h
    · rw [if_neg (by omega), Lib.bytesWorld_at_old w 5 t j h]
    · subst h; rw [if_pos rfl, Lib.bytesWorld_at_new]
    · rw [if_neg (by omega), Array.getElem?_eq_none (by rw [Lib.bytesWorld_size]; omega), Array.getElem?_eq_none (by omega)]
  obtain ⟨hle, hsat⟩ := ((hw.alloc (.cells (Lib.bytesCells w 5 t) 5 ((Lib.bytesCells w 5 t).size, (Lib.bytesCells w 5 t).size + 1))).promote)
  refine ⟨_, _, _, F, hrun, hle, hsat.of_heap hheap ⟨rfl, rfl⟩, w.heap.size, _, rfl, ?_, rfl⟩
  have hl : t.size = (bytesOf t).length := by unfold bytesOf; simp
  rw [hl]
  refine Sl.of_block (z := 1) (f := encB) (fun _ => rfl) (Imm.put_same _ _ _) fun k hk => ?_
  have hfl : (bytesOf t).flatMap encB = (bytesOf t).map fun c => Value.int .u8 c := by
    induction bytesOf t with
    | nil => rfl
    | cons x l ih => simp [encB, ih]
  rw [hfl] at hk ⊢
  have hk' : k < t.data.size := by simpa [bytesOf] using hk
  have hk2 : k < t.size := hk'
  simp [Lib.bytesCells, Array.getElem?_append, hk', hk2, bytesOf, Function.comp_def]

theorem tdiv_le {a d : Int} (hd : 0 ≤ d) (ha : d ≤ 9) : IntKind.wrap .i64 (Int.tdiv (IntKind.wrap .i64 (9223372036854775807 - d)) 10) = (9223372036854775807 - d) / 10 := by
  rw [w64 (n := 9223372036854775807 - d) (by omega), Int.tdiv_eq_ediv_of_nonneg (by omega), w64 (by omega)]
theorem byte_dig {c : Int} (h : digitB c = true) : IntKind.wrap .i64 (IntKind.wrap .u8 (c - 48)) = c - 48 ∧ 48 ≤ c ∧ c ≤ 57 := by
  simp only [digitB, Bool.and_eq_true, decide_eq_true_eq] at h
  rw [w8 (by omega), w64 (by omega)]
  exact ⟨rfl, h⟩
theorem runAt_in {p : Int → Bool} {s : ByteArray} {i k : Int} (h1 : i ≤ k) (h2 : k < runAt p s i) (h3 : i ≤ (s.size : Int)) : p (bt s k) = true ∧ runAt p s k = runAt p s i := by
  obtain ⟨n, hn⟩ : ∃ n : Nat, n = (k - i).toNat := ⟨_, rfl⟩
  have hle := runAt_le (p := p) (s := s) h3
  induction n generalizing i with
  | zero =>
    have : i = k := by omega
    subst this
    rw [runAt_step (by omega)] at h2
    split at h2
    · rename_i hp; exact ⟨hp, rfl⟩
    · omega
  | succ n ih =>
    have hr := runAt_step (p := p) (s := s) (i := i) (by omega)
    split at hr
    · rw [hr] at h2 ⊢
      exact ih (by omega) h2 (by omega) (by omega) (runAt_le (by omega))
    · omega
end Go.Lx
