/- Order is sorted; a small heap. -/
import Derived.Test.YtldgeclcbikmbaaHeapV
set_option linter.unusedVariables false
set_option linter.unusedSimpArgs false
namespace Go.Proofs.Ytldgeclcbikmbaa
open Go.RowKit Go.Sort Go.Proofs.Ytldgeclcbikmbaa.Flt

theorem inOrder_sorted {fs : List Nat} (hO : STO (ahs fs)) (l : List Nat) : (inOrder fs l).Pairwise fun x y => ahs fs y x = false := by
  have h := List.pairwise_mergeSort (le := fun x y => !(ahs fs y x)) (fun a b c hab hbc => by
    simp only [Bool.not_eq_true'] at *
    exact hO.ntr hbc hab) (fun a b => by
    cases h1 : ahs fs b a <;> cases h2 : ahs fs a b <;> simp
    have := hO.asym h1
    rw [h2] at this; cases this) l
  exact h.imp (fun h => by simpa using h)

def bumpX (s : HS) (v : Int) : HS := if isIn s v then bumpS s v.toNat else s
theorem inv_bumpX {s : HS} (h : Inv s) (v : Int) : Inv (bumpX s v) := by
  unfold bumpX
  split
  · rename_i hv
    exact (inv_bump h (by unfold isIn at hv; omega)).1
  · exact h
def s3 : HS := bumpX (pushX (pushX (newS 2) 0) 1) 1

theorem s3_order : inOrder s3.fs s3.l = [1, 0] := by
  have e1 : pushX (newS 2) 0 = pushS (newS 2) 0 := by unfold pushX; rw [if_pos (by decide)]; rfl
  have i1 := inv_push (inv_new 2) 0
  rw [e1] at i1
  have p1 : (pushS (newS 2) 0).l.Perm [0] := (core_push (inv_new 2).co (inv_new 2).fl.fin (x := 0) (by decide) (by decide)).2.1
  have f1 : (pushS (newS 2) 0).fs = [0, 0] := rfl
  have n1 : (1 : Nat) ∉ (pushS (newS 2) 0).l := fun e => by have := p1.mem_iff.1 e; simp at this
  have h1 := i1.ab 1 (by rw [f1]; decide) n1
  have e2 : pushX (pushS (newS 2) 0) 1 = pushS (pushS (newS 2) 0) 1 := by
    unfold pushX
    rw [if_pos ⟨⟨by decide, by rw [f1]; decide⟩, h1⟩]; rfl
  have i2 := inv_push i1 1
  rw [e2] at i2
  have p2 : (pushS (pushS (newS 2) 0) 1).l.Perm [1, 0] := ((core_push i1.co i1.fl.fin (x := 1) (by rw [f1]; decide) n1).2.1).trans (List.Perm.cons 1 p1)
  obtain ⟨t, et⟩ : ∃ t, t = pushS (pushS (newS 2) 0) 1 := ⟨_, rfl⟩
  rw [← et] at i2 p2
  have ft : t.fs = [0, 0] := by rw [et]; rfl
  have st : t.step = 4607182418800017408 := by rw [et]; rfl
  have e3 : s3 = bumpS t 1 := by
    unfold s3 bumpX
    rw [e1, e2, ← et, if_pos ⟨by decide, by rw [ft]; decide⟩]; rfl
  have ib := inv_bump i2 (a := 1) (by rw [ft]; decide)
  rw [e3]
  have fb : (bumpS t 1).fs = [0, 4607182418800017408] := by
    have hr : (raiseS t 1).fs = [0, 4607182418800017408] := by
      unfold raiseS
      rw [ft, st]
      have : fadd 0 4607182418800017408 = 4607182418800017408 := by decide +kernel
      show [0, 0].set 1 (fadd 0 4607182418800017408) = _
      rw [this]; rfl
    unfold bumpS
    rw [hr]
    have hg : isGreat 4607182418800017408 = false := by decide +kernel
    show (if isGreat 4607182418800017408 = true then _ else _ : HS).fs = _
    rw [hg, if_neg (by simp)]
    unfold riseS
    split <;> exact hr
  have hO := ahs_sto ib.1.fl.fin
  have hs := inOrder_sorted hO (bumpS t 1).l
  have hp := ((inOrder_perm (bumpS t 1).fs (bumpS t 1).l).trans ib.2.1).trans p2
  obtain ⟨r, er⟩ : ∃ r, r = inOrder (bumpS t 1).fs (bumpS t 1).l := ⟨_, rfl⟩
  rw [← er] at hs hp ⊢
  rw [fb] at hs
  have hlen := hp.length_eq
  match r, hlen with
  | [a, b], _ =>
    have ha : a = 1 ∨ a = 0 := by have := hp.mem_iff.1 (show a ∈ [a, b] by simp); simpa using this
    have hnd := hp.nodup_iff.2 (show [1, 0].Nodup by decide)
    have hb : b = 1 ∨ b = 0 := by have := hp.mem_iff.1 (show b ∈ [a, b] by simp); simpa using this
    have hab : a ≠ b := by simp at hnd; exact hnd
    rcases ha with rfl | rfl
    · rcases hb with rfl | rfl
      · exact absurd rfl hab
      · rfl
    · rcases hb with rfl | rfl
      · simp only [List.pairwise_cons, List.mem_singleton, forall_eq] at hs
        have : ahs [0, 4607182418800017408] 1 0 = true := by decide +kernel
        rw [this] at hs
        exact absurd hs.1 (by simp)
      · exact absurd rfl hab
end Go.Proofs.Ytldgeclcbikmbaa
