/- The heap's invariant, in plain Lean: floats stay finite, the row stays a heap, places stay right. -/
import Derived.Test.YtldgeclcbikmbaaHeapP
import Derived.Test.YtldgeclcbikmbaaFlt
import Derived.Test.YtldgeclcbikmbaaHeapL
set_option linter.unusedVariables false
set_option linter.unusedSimpArgs false
namespace Go.Proofs.Ytldgeclcbikmbaa
open Flt

def GREAT : Nat := 6103021453049119613
def GREAT2 : Nat := 6107525052676490109
def LOW : Nat := 4300000000000000000

theorem lt_inf {x : Nat} (h : x ≤ GREAT) : x < INF := by unfold GREAT at h; unfold INF; omega
theorem lt_inf2 {x : Nat} (h : x ≤ GREAT2) : x < INF := by unfold GREAT2 at h; unfold INF; omega

theorem fadd_ok {x y : Nat} (hx : x ≤ GREAT) (hy : y ≤ GREAT) :
    FloatKind.f64.format.add x y = some (fadd x y) ∧ fadd x y ≤ GREAT2 ∧ x ≤ fadd x y ∧ (GREAT < fadd x y → 2 ^ pl GREAT ≤ 2 * U y) := by
  obtain ⟨r, hr, h1, h2, h3⟩ := add_fin (lt_inf hx) (lt_inf hy)
  have e : fadd x y = r := by unfold fadd; show (Ieee.double.add x y).getD 0 = r; rw [hr]; rfl
  rw [e]
  refine ⟨hr, ?_, ?_, ?_⟩
  · refine h1 _ ?_
    have a := U_le hx
    have b := U_le hy
    have c : U GREAT + U GREAT ≤ U GREAT2 := by decide +kernel
    omega
  · exact h2 x (Nat.le_of_lt (lt_inf hx)) (by omega)
  · intro hg
    refine Nat.le_of_not_lt fun hlt => ?_
    have := h3 GREAT (by
      have a := U_le hx
      have c : U (GREAT + 1) = U GREAT + 2 ^ pl GREAT := by decide +kernel
      omega)
    omega
theorem fmul_ok {x : Nat} (hx : x ≤ GREAT2) : FloatKind.f64.format.mul x small = some (fmul x small) ∧ fmul x small ≤ GREAT := by
  obtain ⟨r, hr, h1, h2⟩ := mul_fin (x := x) (y := small) (lt_inf2 hx) (by decide)
  have e : fmul x small = r := by unfold fmul; show (Ieee.double.mul x small).getD 0 = r; rw [hr]; rfl
  rw [e]
  refine ⟨hr, h1 _ ?_⟩
  refine Nat.le_trans (Nat.mul_le_mul_right _ (U_le hx)) ?_
  decide +kernel
theorem fmul_low {x : Nat} (hx : x ≤ GREAT2) (hl : 2 ^ pl GREAT ≤ 2 * U x) : LOW ≤ fmul x small := by
  obtain ⟨r, hr, h1, h2⟩ := mul_fin (x := x) (y := small) (lt_inf2 hx) (by decide)
  have e : fmul x small = r := by unfold fmul; show (Ieee.double.mul x small).getD 0 = r; rw [hr]; rfl
  rw [e]
  refine h2 _ (by decide) ?_
  have c : 2 * (U LOW * 2 ^ 1074) ≤ 2 ^ pl GREAT * U small := by decide +kernel
  have d := Nat.mul_le_mul_right (U small) hl
  rw [Nat.mul_assoc 2] at d
  omega
theorem fdiv_ok {x : Nat} (hx : x ≤ GREAT) (h0 : 0 < x) : FloatKind.f64.format.div x fade = some (fdiv x fade) ∧ fdiv x fade ≤ GREAT2 ∧ x ≤ fdiv x fade := by
  obtain ⟨r, hr, h1, h2⟩ := div_fade (lt_inf hx) h0
  have e : fdiv x fade = r := by unfold fdiv; show (Ieee.double.div x FADE).getD 0 = r; rw [hr]; rfl
  rw [e]
  refine ⟨hr, h1 _ ?_, h2⟩
  have a := U_le hx
  have c : 2 * U GREAT ≤ U GREAT2 := by decide +kernel
  omega
theorem isGreat_iff {x : Nat} (hx : x < INF) : isGreat x = true ↔ GREAT < x := by
  have h : FloatKind.f64.format.order x great = some (compare x great) := order_fin hx (by decide)
  unfold isGreat
  rw [h]
  have : (some (compare x great) == some Ordering.gt) = true ↔ compare x great = .gt := by simp
  rw [this, Nat.compare_eq_gt]
  rfl
theorem great_low {x : Nat} (h : GREAT < x) : 2 ^ pl GREAT ≤ 2 * U x := by
  have a := U_lt h
  have c : 2 ^ pl GREAT ≤ U GREAT := by decide +kernel
  omega

theorem fahd_fin {x y : Nat} (hx : x < INF) (hy : y < INF) (a b : Nat) : fahd x y a b = if x = y then decide (a < b) else decide (y < x) := by
  have h : FloatKind.f64.format.order x y = some (compare x y) := order_fin hx hy
  unfold fahd
  rw [h]
  rcases Nat.lt_trichotomy x y with h' | h' | h'
  · rw [Nat.compare_eq_lt.2 h', if_neg (show ¬ x = y by omega)]
    simp; omega
  · rw [Nat.compare_eq_eq.2 h', if_pos h']
    simp
  · rw [Nat.compare_eq_gt.2 h', if_neg (show ¬ x = y by omega)]
    simp [h']
/-- All scores are finite. -/
def FinS (fs : List Nat) : Prop := ∀ x ∈ fs, x < INF
theorem FinS.get {fs : List Nat} (h : FinS fs) (a : Nat) : fs.getD a 0 < INF := by
  by_cases ha : a < fs.length
  · rw [getD_lt _ _ ha]; exact h _ (List.getElem_mem ha)
  · have : fs.getD a 0 = 0 := by simp [List.getD, List.getElem?_eq_none (Nat.le_of_not_lt ha)]
    rw [this]; decide
theorem ahs_eq {fs : List Nat} (h : FinS fs) (a b : Nat) : ahs fs a b = if fs.getD a 0 = fs.getD b 0 then decide (a < b) else decide (fs.getD b 0 < fs.getD a 0) := fahd_fin (h.get a) (h.get b) a b
theorem ahs_iff {fs : List Nat} (h : FinS fs) (a b : Nat) : ahs fs a b = true ↔ fs.getD b 0 < fs.getD a 0 ∨ (fs.getD a 0 = fs.getD b 0 ∧ a < b) := by
  rw [ahs_eq h]
  split
  · rename_i e; rw [decide_eq_true_eq]; omega
  · rename_i e; rw [decide_eq_true_eq]; omega
theorem ahs_sto {fs : List Nat} (h : FinS fs) : STO (ahs fs) := by
  refine ⟨fun a => ?_, fun a b c hab hbc => ?_, fun a b hab hba => ?_⟩
  · rw [ahs_eq h]; simp
  · rw [ahs_iff h] at *; omega
  · have h1 : ¬ (ahs fs a b = true) := by rw [hab]; simp
    have h2 : ¬ (ahs fs b a = true) := by rw [hba]; simp
    rw [ahs_iff h] at h1 h2
    omega
end Go.Proofs.Ytldgeclcbikmbaa
