/- Bump and Decay beside blocks that are not the heap's. -/
import Derived.Test.YtldgeclcbikmbaaHeapX
set_option linter.unusedVariables false
set_option linter.unusedSimpArgs false
namespace Go.Proofs.Ytldgeclcbikmbaa
open Go.RowKit Go.Sort Go.Proofs.Ytldgeclcbikmbaa.Flt

/-- A heap in a right state that keeps away from the blocks of N. -/
def HeapN (N : Nat → Prop) (w : World) (H : Nat) (s : HS) : Prop :=
  ∃ V bs bp lv, HeapAt w H V bs bp lv s ∧ Inv s ∧ ¬ N H ∧ ¬ N V ∧ ¬ N bs ∧ ¬ N bp ∧ ∀ b, lv.ownBlock = some b → ¬ N b

theorem HeapOk.to_n {B : Nat} {w : World} {H : Nat} {s : HS} (h : HeapOk B w H s) : HeapN (fun b => b < B ∨ w.heap.size ≤ b) w H s := by
  obtain ⟨V, bs, bp, lv, h1, h2, b1, b2, b3, b4, b5⟩ := h
  refine ⟨V, bs, bp, lv, h1, h2, ?_, ?_, ?_, ?_, ?_⟩
  · have := h1.hH.lt; omega
  · have := h1.hV.lt; omega
  · have := h1.hs.lt; omega
  · have := h1.hp.lt; omega
  · intro b hb
    have hlt : b < w.heap.size := by
      rcases owns_blk h1.hl with ⟨rfl, _, _⟩ | ⟨g, cap, more, rfl, _, hgb, _⟩
      · simp [Value.ownBlock] at hb
      · simp only [Value.ownBlock, Option.some.injEq] at hb
        subst hb; exact hgb.lt
    have := b5 b hb
    omega
theorem HeapN.mono {N M : Nat → Prop} {w : World} {H : Nat} {s : HS} (h : HeapN N w H s) (hM : ∀ b, M b → N b) : HeapN M w H s := by
  obtain ⟨V, bs, bp, lv, h1, h2, b1, b2, b3, b4, b5⟩ := h
  exact ⟨V, bs, bp, lv, h1, h2, fun e => b1 (hM _ e), fun e => b2 (hM _ e), fun e => b3 (hM _ e), fun e => b4 (hM _ e), fun b hb e => b5 b hb (hM _ e)⟩
theorem HeapN.to_ok {N : Nat → Prop} {B : Nat} {w : World} {H : Nat} {s : HS} (h : HeapN N w H s) (hN : ∀ b, b < B → N b) : HeapOk B w H s := by
  obtain ⟨V, bs, bp, lv, h1, h2, b1, b2, b3, b4, b5⟩ := h
  refine ⟨V, bs, bp, lv, h1, h2, Nat.le_of_not_lt fun e => b1 (hN _ e), Nat.le_of_not_lt fun e => b2 (hN _ e), Nat.le_of_not_lt fun e => b3 (hN _ e), Nat.le_of_not_lt fun e => b4 (hN _ e), fun b hb => Nat.le_of_not_lt fun e => b5 b hb (hN _ e)⟩
theorem HeapN.stay {N : Nat → Prop} {w w' : World} {H : Nat} {s : HS} {S : Nat → Prop} (h : HeapN N w H s) (k : Fr S w w') (hS : ∀ b, b < w.heap.size → ¬ N b → ¬ S b) : HeapN N w' H s := by
  obtain ⟨V, bs, bp, lv, h1, h2, b1, b2, b3, b4, b5⟩ := h
  exact ⟨V, bs, bp, lv, h1.keep k (hS _ h1.hH.lt b1) (hS _ h1.hV.lt b2) (hS _ h1.hs.lt b3) (hS _ h1.hp.lt b4) (fun b hb => hS b (by
    rcases owns_blk h1.hl with ⟨rfl, _, _⟩ | ⟨g, cap, more, rfl, _, hgb, _⟩
    · simp [Value.ownBlock] at hb
    · simp only [Value.ownBlock, Option.some.injEq] at hb
      subst hb; exact hgb.lt) (b5 b hb)), h2, b1, b2, b3, b4, b5⟩

section
variable {N : Nat → Prop} {H : Nat} {w : World} {s : HS}
theorem bump_n (h : HeapN N w H s) (hN : ∀ b, N b → b < w.heap.size) (v : Int) : Calls Try.prog 21 #[.pointer (some ⟨H, 0, none⟩), .int .i64 v] w fun e w' => e = .returned (.int .i64 (if isIn s v then 0 else 61)) ∧ HeapN N w' H (bumpX s v) ∧ Fr (fun b => ¬ N b) w w' := by
  by_cases hv : isIn s v
  · have hx : bumpX s v = bumpS s v.toNat := by unfold bumpX; rw [if_pos hv]
    rw [if_pos hv, hx]
    obtain ⟨V, bs, bp, lv, h1, h2, b1, b2, b3, b4, b5⟩ := h
    have ha : v.toNat < s.fs.length := by unfold isIn at hv; omega
    have hva : v = (v.toNat : Int) := by unfold isIn at hv; omega
    obtain ⟨f1, f2, f3, f4⟩ := fadd_ok (h2.fl.getG ha) h2.fl.st
    have hb := bump_yes h1 ha (fun h0 => (place_at h2 ha h0).1) f1 (fun _ x hx => (fmul_ok (by
      rcases List.mem_or_eq_of_mem_set hx with e | e
      · exact Nat.le_trans (h2.fl.sc x e) (by decide)
      · rw [e]; exact f2)).1) (fun _ => (fmul_ok (Nat.le_trans h2.fl.st (by decide))).1)
    rw [← hva] at hb
    refine hb.mono ?_
    rintro e w' ⟨he, lv', q1, q2, q3⟩
    refine ⟨he, ⟨V, bs, bp, lv', q1, (inv_bump h2 ha).1, b1, b2, b3, b4, fun b hb => ?_⟩, q2.mono (fun x _ hx => ?_)⟩
    · rcases q3 b hb with e | e
      · exact b5 b e
      · exact fun k => by have := hN b k; omega
    · rcases hx with e | e | e | e
      · exact b5 x e
      · rw [e]; exact b3
      · rw [e]; exact b4
      · rw [e]; exact b1
  · have hx : bumpX s v = s := by unfold bumpX; rw [if_neg hv]
    rw [if_neg hv, hx]
    obtain ⟨V, bs, bp, lv, h1, hr⟩ := h
    refine (bump_no h1 hv).mono ?_
    rintro e w' ⟨he, rfl⟩
    exact ⟨he, ⟨V, bs, bp, lv, h1, hr⟩, Fr.refl _ _⟩

theorem decay_n (h : HeapN N w H s) (hN : ∀ b, N b → b < w.heap.size) : Calls Try.prog 24 #[.pointer (some ⟨H, 0, none⟩)] w fun e w' => e = .returned (.tuple #[]) ∧ HeapN N w' H (decayS s) ∧ Fr (fun b => ¬ N b) w w' := by
  obtain ⟨V, bs, bp, lv, h1, h2, b1, b2, b3, b4, b5⟩ := h
  have h0 : 0 < s.step := by have := h2.fl.lo; unfold LOW at this; omega
  obtain ⟨d1, d2, d3⟩ := fdiv_ok h2.fl.st h0
  refine (decay_heap h1 d1 (fun _ x hx => (fmul_ok (Nat.le_trans (h2.fl.sc x hx) (by decide))).1) (fun _ => (fmul_ok d2).1)).mono ?_
  rintro e w' ⟨he, lv', q1, q2, q3⟩
  refine ⟨he, ⟨V, bs, bp, lv', q1, (inv_decay h2).1, b1, b2, b3, b4, fun b hb => ?_⟩, q2.mono (fun x _ hx => ?_)⟩
  · rcases q3 b hb with e | e
    · exact b5 b e
    · exact fun k => by have := hN b k; omega
  · rcases hx with e | e | e
    · rw [e]; exact b3
    · rw [e]; exact b4
    · rw [e]; exact b1
end

theorem bumpX_len {s : HS} (h : Inv s) (v : Int) : (bumpX s v).fs.length = s.fs.length := by
  unfold bumpX
  by_cases hv : isIn s v
  · rw [if_pos hv]; exact (inv_bump h (by unfold isIn at hv; omega)).2.2
  · rw [if_neg hv]
theorem HeapN.inv {N : Nat → Prop} {w : World} {H : Nat} {s : HS} (h : HeapN N w H s) : Inv s := by
  obtain ⟨V, bs, bp, lv, h1, h2, _⟩ := h
  exact h2
theorem pushX_len (s : HS) (v : Int) : (pushX s v).fs.length = s.fs.length := by
  unfold pushX
  split <;> rfl
theorem popS_len (s : HS) : (popS s).fs.length = s.fs.length := by
  unfold popS
  dsimp only
  split <;> rfl
end Go.Proofs.Ytldgeclcbikmbaa
