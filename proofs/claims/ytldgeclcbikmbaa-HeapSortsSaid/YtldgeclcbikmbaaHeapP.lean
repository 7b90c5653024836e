/- The heap's plain law: what moving up and down does to a list that is a heap, in plain Lean. -/
import Derived.Test.YtldgeclcbikmbaaHeapH
set_option linter.unusedVariables false
set_option linter.unusedSimpArgs false
namespace Go.Proofs.Ytldgeclcbikmbaa

theorem gset {α : Type} (l : List α) (i j : Nat) (v d : α) (hi : i < l.length) : (l.set i v).getD j d = if j = i then v else l.getD j d := by
  by_cases h : j = i
  · subst h; rw [if_pos rfl]; simp [List.getD, hi]
  · rw [if_neg h]; simp [List.getD, List.getElem?_set_ne (fun e => h e.symm)]
theorem swap_perm (l : List Nat) (i k : Nat) (hi : i < l.length) (hk : k < l.length) : ((l.set i (l.getD k 0)).set k (l.getD i 0)).Perm l := by
  have := List.set_set_perm hi hk
  rwa [← getD_lt l 0 hi, ← getD_lt l 0 hk] at this

/-- A strict total order on numbers. -/
structure STO (ah : Nat → Nat → Bool) : Prop where
  irr : ∀ a, ah a a = false
  tr : ∀ a b c, ah a b = true → ah b c = true → ah a c = true
  tot : ∀ a b, ah a b = false → ah b a = false → a = b
theorem STO.asym {ah : Nat → Nat → Bool} (h : STO ah) {a b : Nat} (hab : ah a b = true) : ah b a = false := by
  cases hb : ah b a
  · rfl
  · have := h.tr a b a hab hb; rw [h.irr] at this; cases this
/-- not ahead, not ahead: not ahead. -/
theorem STO.ntr {ah : Nat → Nat → Bool} (h : STO ah) {a b c : Nat} (hab : ah a b = false) (hbc : ah b c = false) : ah a c = false := by
  cases hac : ah a c
  · rfl
  · cases hcb : ah c b
    · have := h.tot b c hbc hcb; subst this; rw [hab] at hac; cases hac
    · have := h.tr a c b hac hcb; rw [hab] at this; cases this
theorem STO.ntl {ah : Nat → Nat → Bool} (h : STO ah) {a b c : Nat} (hac : ah a c = false) (hbc : ah b c = true) : ah a b = false := by
  cases hab : ah a b
  · rfl
  · have := h.tr a b c hab hbc; rw [hac] at this; cases this

def Heap (ah : Nat → Nat → Bool) (l : List Nat) : Prop := ∀ j, 0 < j → j < l.length → ah (l.getD j 0) (l.getD ((j - 1) / 2) 0) = false
def Pos (l : List Nat) (ps : List Int) : Prop := ∀ j, j < l.length → ps.getD (l.getD j 0) 0 = (j : Int)
/-- What a move leaves. -/
structure Moved (ah : Nat → Nat → Bool) (l : List Nat) (ps : List Int) (r : List Nat × List Int) : Prop where
  perm : r.1.Perm l
  heap : Heap ah r.1
  pos : Pos r.1 r.2
  len : r.2.length = ps.length
  oth : ∀ v, v ∉ l → r.2.getD v 0 = ps.getD v 0

theorem nodup_inj {l : List Nat} (h : l.Nodup) {a b : Nat} (ha : a < l.length) (hb : b < l.length) (e : l.getD a 0 = l.getD b 0) : a = b := by
  rw [getD_lt l 0 ha, getD_lt l 0 hb] at e
  have h' := List.pairwise_iff_getElem.1 h
  rcases Nat.lt_trichotomy a b with hl | hl | hl
  · exact absurd e (h' a b ha hb hl)
  · exact hl
  · exact absurd e.symm (h' b a hb ha hl)
theorem mem_getD {l : List Nat} {a : Nat} (ha : a < l.length) : l.getD a 0 ∈ l := by rw [getD_lt l 0 ha]; exact List.getElem_mem ha

/-- Moving up: m is the list with x at the place i. -/
theorem upL_moved {ah : Nat → Nat → Bool} (hO : STO ah) (x : Nat) (i : Nat) : ∀ (l m : List Nat) (ps : List Int), m = l.set i x → i < l.length → m.Nodup → (∀ v ∈ m, v < ps.length) →
    (∀ j, j < m.length → j ≠ i → ps.getD (m.getD j 0) 0 = (j : Int)) →
    (∀ j, 0 < j → j < m.length → j ≠ i → ah (m.getD j 0) (m.getD ((j - 1) / 2) 0) = false) →
    (0 < i → ∀ j, 0 < j → j < m.length → (j - 1) / 2 = i → ah (m.getD j 0) (m.getD ((i - 1) / 2) 0) = false) →
    Moved ah m ps (upL ah x i l ps) := by
  induction i using Nat.strongRecOn with
  | _ i ih =>
    intro l m ps hm hi hnd hb hpos hheap hkid
    have hml : m.length = l.length := by rw [hm, List.length_set]
    have hmi : m.getD i 0 = x := by rw [hm, gset _ _ _ _ _ hi, if_pos rfl]
    have hxm : x ∈ m := by rw [← hmi]; exact mem_getD (by omega)
    by_cases hgo : 0 < i ∧ ah x (l.getD ((i - 1) / 2) 0) = true
    · obtain ⟨h0, h1⟩ := hgo
      rw [upL_go h0 h1]
      obtain ⟨p, ep⟩ : ∃ p, p = (i - 1) / 2 := ⟨_, rfl⟩
      rw [← ep] at h1 ⊢
      have hpi : p < i := by omega
      have hlp : l.getD p 0 = m.getD p 0 := by rw [hm, gset _ _ _ _ _ hi, if_neg (by omega)]
      rw [hlp] at h1 ⊢
      have hm1 : (l.set i (m.getD p 0)).set p x = (m.set i (m.getD p 0)).set p (m.getD i 0) := by rw [hmi, hm, List.set_set]
      have hper := swap_perm m i p (by omega) (by omega)
      obtain ⟨m1, em1⟩ : ∃ m1, m1 = (m.set i (m.getD p 0)).set p (m.getD i 0) := ⟨_, rfl⟩
      rw [← em1] at hm1 hper
      have hm1l : m1.length = m.length := hper.length_eq
      have hg : ∀ j, m1.getD j 0 = if j = p then x else if j = i then m.getD p 0 else m.getD j 0 := by
        intro j
        rw [em1, gset _ _ _ _ _ (by rw [List.length_set]; omega), gset _ _ _ _ _ (by omega), hmi]
      have hpp : m.getD p 0 < ps.length := hb _ (mem_getD (by omega))
      have H := ih p hpi (l.set i (m.getD p 0)) m1 (ps.set (m.getD p 0) (i : Int)) hm1.symm (by rw [List.length_set]; omega) (hper.nodup_iff.2 hnd) (fun v hv => by rw [List.length_set]; exact hb v (hper.mem_iff.1 hv)) ?_ ?_ ?_
      · refine ⟨H.perm.trans hper, H.heap, H.pos, by rw [H.len, List.length_set], fun v hv => ?_⟩
        rw [H.oth v (fun e => hv (hper.mem_iff.1 e)), gset _ _ _ _ _ hpp, if_neg (fun e => hv (by rw [e]; exact mem_getD (by omega)))]
      · intro j hj hjp
        rw [hg, if_neg hjp]
        by_cases hji : j = i
        · rw [if_pos hji, gset _ _ _ _ _ hpp, if_pos rfl, hji]
        · rw [if_neg hji, gset _ _ _ _ _ hpp, if_neg (fun e => hjp (nodup_inj hnd (by omega) (by omega) e))]
          exact hpos j (by omega) hji
      · intro j hj0 hj hjp
        rw [hg, hg, if_neg hjp]
        by_cases hji : j = i
        · rw [if_pos hji, if_pos (by rw [hji, ep])]
          exact hO.asym h1
        · rw [if_neg hji]
          by_cases hpar : (j - 1) / 2 = p
          · rw [if_pos hpar]
            have := hheap j hj0 (by omega) hji
            rw [hpar] at this
            exact hO.ntl this h1
          · rw [if_neg hpar]
            by_cases hpar2 : (j - 1) / 2 = i
            · rw [if_pos hpar2]
              have := hkid h0 j hj0 (by omega) hpar2
              rw [← ep] at this
              exact this
            · rw [if_neg hpar2]
              exact hheap j hj0 (by omega) hji
      · intro hp0 j hj0 hj hjp
        rw [hg, hg, if_neg (by omega), if_neg (show (p - 1) / 2 ≠ p by omega), if_neg (show (p - 1) / 2 ≠ i by omega)]
        have hpg := hheap p hp0 (by omega) (by omega)
        by_cases hji : j = i
        · rw [if_pos hji]; exact hpg
        · rw [if_neg hji]
          have := hheap j hj0 (by omega) hji
          rw [hjp] at this
          exact hO.ntr this hpg
    · rw [upL_stop (fun h0 => by cases hc : ah x (l.getD ((i - 1) / 2) 0); · rfl
                                 · exact absurd ⟨h0, hc⟩ hgo)]
      rw [← hm]
      refine ⟨List.Perm.refl _, ?_, ?_, by simp, ?_⟩
      · intro j hj0 hj
        by_cases hji : j = i
        · show ah (m.getD j 0) (m.getD ((j - 1) / 2) 0) = false
          rw [hji, hmi]
          have : m.getD ((i - 1) / 2) 0 = l.getD ((i - 1) / 2) 0 := by rw [hm, gset _ _ _ _ _ hi, if_neg (by omega)]
          rw [this]
          cases hc : ah x (l.getD ((i - 1) / 2) 0)
          · rfl
          · exact absurd ⟨by omega, hc⟩ hgo
        · exact hheap j hj0 hj hji
      · intro j hj
        show (ps.set x (i : Int)).getD (m.getD j 0) 0 = (j : Int)
        rw [gset _ _ _ _ _ (hb x hxm)]
        by_cases hji : j = i
        · rw [hji, hmi, if_pos rfl]
        · rw [if_neg (fun e => hji (nodup_inj hnd hj (by omega) (by rw [hmi]; exact e)))]
          exact hpos j hj hji
      · intro v hv
        show (ps.set x (i : Int)).getD v 0 = _
        rw [gset _ _ _ _ _ (hb x hxm), if_neg (fun e => hv (by rw [e]; exact hxm))]

theorem kid_par (ah : Nat → Nat → Bool) (l : List Nat) (i : Nat) : (kid ah l i - 1) / 2 = i := by unfold kid; split <;> omega
theorem kid_best {ah : Nat → Nat → Bool} (hO : STO ah) (l : List Nat) (i : Nat) (h : 2 * i + 1 < l.length) (j : Nat) (hj0 : 0 < j) (hj : j < l.length) (hp : (j - 1) / 2 = i) : ah (l.getD j 0) (l.getD (kid ah l i) 0) = false := by
  unfold kid
  have hj' : j = 2 * i + 1 ∨ j = 2 * i + 2 := by omega
  split
  · rename_i hc
    rcases hj' with e | e
    · rw [e]; exact hO.asym hc.2
    · rw [e]; exact hO.irr _
  · rename_i hc
    rcases hj' with e | e
    · rw [e]; exact hO.irr _
    · rw [e]
      cases hx : ah (l.getD (2 * i + 2) 0) (l.getD (2 * i + 1) 0)
      · rfl
      · exact absurd ⟨by omega, hx⟩ hc

/-- Moving down: m is the list with x at the place i. -/
theorem downL_moved {ah : Nat → Nat → Bool} (hO : STO ah) (x : Nat) (d : Nat) : ∀ (i : Nat) (l m : List Nat) (ps : List Int), l.length - i = d → m = l.set i x → i < l.length → m.Nodup → (∀ v ∈ m, v < ps.length) →
    (∀ j, j < m.length → j ≠ i → ps.getD (m.getD j 0) 0 = (j : Int)) →
    (∀ j, 0 < j → j < m.length → (j - 1) / 2 ≠ i → ah (m.getD j 0) (m.getD ((j - 1) / 2) 0) = false) →
    (0 < i → ∀ j, 0 < j → j < m.length → (j - 1) / 2 = i → ah (m.getD j 0) (m.getD ((i - 1) / 2) 0) = false) →
    Moved ah m ps (downL ah x i l ps) := by
  induction d using Nat.strongRecOn with
  | _ d ih =>
    intro i l m ps hd hm hi hnd hb hpos hheap hkid
    have hml : m.length = l.length := by rw [hm, List.length_set]
    have hmi : m.getD i 0 = x := by rw [hm, gset _ _ _ _ _ hi, if_pos rfl]
    have hxm : x ∈ m := by rw [← hmi]; exact mem_getD (by omega)
    by_cases hgo : 2 * i + 1 < l.length ∧ ah (l.getD (kid ah l i) 0) x = true
    · obtain ⟨h0, h1⟩ := hgo
      rw [downL_go h0 h1]
      have hkgt := kid_gt ah l i
      have hklt := kid_lt ah l i h0
      have hkp := kid_par ah l i
      have hbest := kid_best hO l i h0
      obtain ⟨k, ek⟩ : ∃ k, k = kid ah l i := ⟨_, rfl⟩
      rw [← ek] at h1 hkgt hklt hkp hbest ⊢
      have hlk : ∀ j, j ≠ i → l.getD j 0 = m.getD j 0 := fun j hj => by rw [hm, gset _ _ _ _ _ hi, if_neg hj]
      rw [hlk k (by omega)] at h1 ⊢
      have hbest' : ∀ j, 0 < j → j < m.length → (j - 1) / 2 = i → ah (m.getD j 0) (m.getD k 0) = false := fun j hj0 hj hp => by
        have := hbest j hj0 (by omega) hp
        rwa [hlk j (by omega), hlk k (by omega)] at this
      have hm1 : (l.set i (m.getD k 0)).set k x = (m.set i (m.getD k 0)).set k (m.getD i 0) := by rw [hmi, hm, List.set_set]
      have hper := swap_perm m i k (by omega) (by omega)
      obtain ⟨m1, em1⟩ : ∃ m1, m1 = (m.set i (m.getD k 0)).set k (m.getD i 0) := ⟨_, rfl⟩
      rw [← em1] at hm1 hper
      have hm1l : m1.length = m.length := hper.length_eq
      have hg : ∀ j, m1.getD j 0 = if j = k then x else if j = i then m.getD k 0 else m.getD j 0 := by
        intro j
        rw [em1, gset _ _ _ _ _ (by rw [List.length_set]; omega), gset _ _ _ _ _ (by omega), hmi]
      have hpp : m.getD k 0 < ps.length := hb _ (mem_getD (by omega))
      have H := ih (l.length - k) (by omega) k (l.set i (m.getD k 0)) m1 (ps.set (m.getD k 0) (i : Int)) (by rw [List.length_set]) hm1.symm (by rw [List.length_set]; omega) (hper.nodup_iff.2 hnd) (fun v hv => by rw [List.length_set]; exact hb v (hper.mem_iff.1 hv)) ?_ ?_ ?_
      · refine ⟨H.perm.trans hper, H.heap, H.pos, by rw [H.len, List.length_set], fun v hv => ?_⟩
        rw [H.oth v (fun e => hv (hper.mem_iff.1 e)), gset _ _ _ _ _ hpp, if_neg (fun e => hv (by rw [e]; exact mem_getD (by omega)))]
      · intro j hj hjp
        rw [hg, if_neg hjp]
        by_cases hji : j = i
        · rw [if_pos hji, gset _ _ _ _ _ hpp, if_pos rfl, hji]
        · rw [if_neg hji, gset _ _ _ _ _ hpp, if_neg (fun e => hjp (nodup_inj hnd (by omega) (by omega) e))]
          exact hpos j (by omega) hji
      · intro j hj0 hj hjp
        rw [hg, hg, if_neg hjp]
        by_cases hjk : j = k
        · rw [if_pos hjk, if_pos (by rw [hjk, hkp])]
          exact hO.asym h1
        · rw [if_neg hjk]
          by_cases hji : j = i
          · rw [if_pos hji, if_neg (show (j - 1) / 2 ≠ i by omega)]
            have := hkid (by omega) k (by omega) (by omega) hkp
            rw [hji]; exact this
          · rw [if_neg hji]
            by_cases hpar2 : (j - 1) / 2 = i
            · rw [if_pos hpar2]
              exact hbest' j hj0 (by omega) hpar2
            · rw [if_neg hpar2]
              exact hheap j hj0 (by omega) hpar2
      · intro hk0 j hj0 hj hjk
        rw [hg, hg, if_neg (by omega), if_neg (by omega), if_neg (by omega), if_pos hkp]
        have := hheap j hj0 (by omega) (by omega)
        rw [hjk] at this
        exact this
    · have hgo' : 2 * i + 1 < l.length → ah (l.getD (kid ah l i) 0) x = false := fun h0 => by
        cases hc : ah (l.getD (kid ah l i) 0) x
        · rfl
        · exact absurd ⟨h0, hc⟩ hgo
      rw [downL_stop hgo', ← hm]
      refine ⟨List.Perm.refl _, ?_, ?_, by simp, ?_⟩
      · intro j hj0 hj
        show ah (m.getD j 0) (m.getD ((j - 1) / 2) 0) = false
        by_cases hpar : (j - 1) / 2 = i
        · have hj' : j < l.length := by have : j < m.length := hj; omega
          have h0 : 2 * i + 1 < l.length := by omega
          have := kid_best hO l i h0 j hj0 hj' hpar
          rw [hpar, hmi]
          have e : m.getD j 0 = l.getD j 0 := by rw [hm, gset _ _ _ _ _ hi, if_neg (by omega)]
          rw [e]
          exact hO.ntr this (hgo' h0)
        · exact hheap j hj0 hj hpar
      · intro j hj
        show (ps.set x (i : Int)).getD (m.getD j 0) 0 = (j : Int)
        rw [gset _ _ _ _ _ (hb x hxm)]
        by_cases hji : j = i
        · rw [hji, hmi, if_pos rfl]
        · rw [if_neg (fun e => hji (nodup_inj hnd hj (by omega) (by rw [hmi]; exact e)))]
          exact hpos j hj hji
      · intro v hv
        show (ps.set x (i : Int)).getD v 0 = _
        rw [gset _ _ _ _ _ (hb x hxm), if_neg (fun e => hv (by rw [e]; exact hxm))]

theorem heap_top {ah : Nat → Nat → Bool} (hO : STO ah) {l : List Nat} (h : Heap ah l) : ∀ j, j < l.length → ah (l.getD j 0) (l.getD 0 0) = false := by
  intro j
  induction j using Nat.strongRecOn with
  | _ j ih =>
    intro hj
    by_cases h0 : j = 0
    · rw [h0]; exact hO.irr _
    · exact hO.ntr (h j (by omega) hj) (ih ((j - 1) / 2) (by omega) (by omega))
end Go.Proofs.Ytldgeclcbikmbaa
