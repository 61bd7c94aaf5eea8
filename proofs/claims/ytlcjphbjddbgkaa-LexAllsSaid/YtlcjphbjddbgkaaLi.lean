import Derived.Test.YtlcjphbjddbgkaaLh
import Derived.Lib.Strings
set_option linter.unusedVariables false
set_option linter.unusedSimpArgs false
namespace Go.Lx
open Go.Vc

def marksL : List ByteArray := [⟨#[61, 61]⟩, ⟨#[33, 61]⟩, ⟨#[60, 61]⟩, ⟨#[62, 61]⟩, ⟨#[38, 38]⟩, ⟨#[124, 124]⟩, ⟨#[123]⟩, ⟨#[125]⟩, ⟨#[40]⟩, ⟨#[41]⟩, ⟨#[44]⟩, ⟨#[59]⟩, ⟨#[63]⟩, ⟨#[58]⟩, ⟨#[61]⟩, ⟨#[33]⟩, ⟨#[60]⟩, ⟨#[62]⟩, ⟨#[43]⟩, ⟨#[45]⟩, ⟨#[42]⟩, ⟨#[47]⟩, ⟨#[37]⟩]
def hitB (s : ByteArray) (i : Int) (m : ByteArray) : Bool := decide (i + (m.size : Int) ≤ s.size) && ((cut s i (i + (m.size : Int))).toList == m.toList)

theorem ba_eq {a b : ByteArray} (h : a.toList = b.toList) : a = b := by
  rw [Lib.toList_data, Lib.toList_data] at h
  have : a.data = b.data := Array.toList_inj.1 h
  cases a; cases b; simp_all
theorem bt_get {a : ByteArray} {k : Nat} (h : k < a.size) : bt a k = (a.data[k].toNat : Int) := by
  have h2 : a[k]? = some a[k] := by simp [h]
  unfold bt
  rw [Int.toNat_natCast, h2]
  rfl
theorem ba_ext {a b : ByteArray} (hs : a.size = b.size) (h : ∀ k : Nat, k < a.size → bt a k = bt b k) : a = b := by
  have : a.data = b.data := by
    refine Array.ext hs fun k h1 h2 => ?_
    have := h k h1
    rw [bt_get h1, bt_get h2] at this
    exact UInt8.toNat_inj.1 (by omega)
  cases a; cases b; simp_all
theorem hit_iff {s : ByteArray} {i : Int} (h0 : 0 ≤ i) (m : ByteArray) : hitB s i m = true ↔ i + m.size ≤ s.size ∧ ∀ k : Nat, k < m.size → bt s (i + k) = bt m k := by
  unfold hitB
  simp only [Bool.and_eq_true, decide_eq_true_eq, beq_iff_eq]
  refine ⟨fun ⟨h1, h2⟩ => ⟨h1, fun k hk => ?_⟩, fun ⟨h1, h2⟩ => ⟨h1, ?_⟩⟩
  · have := ba_eq h2
    rw [← cut_bt (j := i + m.size) h0 (by omega) (by omega) h1, this]
  · have hc := cut_size (s := s) h0 (by omega : i ≤ i + m.size) h1
    have : cut s i (i + m.size) = m := ba_ext (by omega) fun k hk => by
      rw [cut_bt h0 (by omega) (by omega) h1]
      exact h2 k (by omega)
    rw [this]
theorem hit1 {s : ByteArray} {i : Int} (h0 : 0 ≤ i) (h : i < s.size) (c : UInt8) : hitB s i ⟨#[c]⟩ = (bt s i == (c.toNat : Int)) := by
  rw [Bool.eq_iff_iff, hit_iff h0, beq_iff_eq]
  refine ⟨fun ⟨_, h⟩ => by have := h 0 (Nat.lt_succ_self 0); rwa [Int.natCast_zero, Int.add_zero] at this, fun hc => ⟨by show i + ((1 : Nat) : Int) ≤ _; omega, fun k hk => ?_⟩⟩
  have : k = 0 := by have : k < 1 := hk; omega
  subst this
  rw [Int.natCast_zero, Int.add_zero, hc]; rfl
theorem hit2 {s : ByteArray} {i : Int} (h0 : 0 ≤ i) (c d : UInt8) (hd : d.toNat ≠ 0) : hitB s i ⟨#[c, d]⟩ = (bt s i == (c.toNat : Int) && byteOr0 s (i + 1) == (d.toNat : Int)) := by
  rw [Bool.eq_iff_iff, hit_iff h0]
  simp only [Bool.and_eq_true, beq_iff_eq]
  refine ⟨fun ⟨h1, h⟩ => ⟨?_, ?_⟩, fun ⟨hc, hd'⟩ => ?_⟩
  · have := h 0 (show 0 < 2 by decide); rwa [Int.natCast_zero, Int.add_zero] at this
  · have h1 : i + ((2 : Nat) : Int) ≤ s.size := h1
    unfold byteOr0
    rw [if_pos (by omega)]
    exact h 1 (show 1 < 2 by decide)
  · have hl : i + 1 < s.size := by
      rcases Int.lt_or_le (i + 1) s.size with h | h
      · exact h
      · unfold byteOr0 at hd'; rw [if_neg (by omega)] at hd'; omega
    unfold byteOr0 at hd'
    rw [if_pos hl] at hd'
    refine ⟨by show i + ((2 : Nat) : Int) ≤ _; omega, fun k hk => ?_⟩
    have hk : k < 2 := hk
    rcases (by omega : k = 0 ∨ k = 1) with rfl | rfl
    · rw [Int.natCast_zero, Int.add_zero, hc]; rfl
    · exact hd'
theorem mark_find {s : ByteArray} {i : Int} (h0 : 0 ≤ i) (h : i < s.size) :
    (marksL.find? (hitB s i) = none ∧ markN s i = 0) ∨ (∃ m, marksL.find? (hitB s i) = some m ∧ (m.size : Int) = markN s i ∧ 0 < markN s i ∧ cut s i (i + markN s i) = m) := by
  have key : (marksL.find? (hitB s i) = none ∧ markN s i = 0) ∨ (∃ m, marksL.find? (hitB s i) = some m ∧ (m.size : Int) = markN s i ∧ 0 < markN s i) := by
    unfold marksL
    simp only [List.find?_cons, List.find?_nil, hit1 h0 h, hit2 h0 _ 61 (by decide), hit2 h0 _ 38 (by decide), hit2 h0 _ 124 (by decide)]
    unfold markN
    generalize bt s i = c
    generalize byteOr0 s (i + 1) = d
    clear h h0
    repeat' split
    all_goals first | (simp_all [single]; done) | (simp_all [single]; rfl) | (simp_all [single]; omega)
  rcases key with hk | ⟨m, hm, hs, hp⟩
  · exact .inl hk
  · refine .inr ⟨m, hm, hs, hp, ?_⟩
    have := List.find?_some hm
    rw [hit_iff h0] at this
    rw [← hs]
    have hc := cut_size (s := s) h0 (by omega : i ≤ i + m.size) this.1
    refine ba_ext (by omega) fun k hk => ?_
    rw [cut_bt h0 (by omega) (by omega) this.1]
    exact this.2 k (by omega)
end Go.Lx
