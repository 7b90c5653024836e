/- The heap's invariant holds behind every call, in plain Lean. -/
import Derived.Test.YtldgeclcbikmbaaHeapQ
set_option linter.unusedVariables false
set_option linter.unusedSimpArgs false
namespace Go.Proofs.Ytldgeclcbikmbaa
open Flt

/-- Floats are in bounds. -/
structure FlOk (s : HS) : Prop where
  sc : ∀ x ∈ s.fs, x ≤ GREAT
  st : s.step ≤ GREAT
  lo : LOW ≤ s.step
/-- The row is a heap, the places of what stands in it are right. -/
structure Core (s : HS) : Prop where
  pl : s.ps.length = s.fs.length
  bd : ∀ v ∈ s.l, v < s.fs.length
  nd : s.l.Nodup
  hp : Heap (ahs s.fs) s.l
  pos : Pos s.l s.ps
structure Inv (s : HS) : Prop where
  fl : FlOk s
  co : Core s
  ab : ∀ v, v < s.fs.length → v ∉ s.l → s.ps.getD v 0 < 0

theorem FlOk.fin {s : HS} (h : FlOk s) : FinS s.fs := fun x hx => lt_inf (h.sc x hx)
theorem FlOk.getG {s : HS} (h : FlOk s) {a : Nat} (ha : a < s.fs.length) : s.fs.getD a 0 ≤ GREAT := by rw [getD_lt _ _ ha]; exact h.sc _ (List.getElem_mem ha)
theorem nodup_len (n : Nat) : ∀ l : List Nat, l.Nodup → (∀ v ∈ l, v < n) → l.length ≤ n := by
  induction n with
  | zero =>
    intro l _ h
    cases l with
    | nil => simp
    | cons a r => have := h a List.mem_cons_self; omega
  | succ n ih =>
    intro l hn h
    have h1 := ih (l.erase n) (hn.erase n) (fun v hv => by
      have h2 := h v (List.mem_of_mem_erase hv)
      have h3 : v ≠ n := fun e => by subst e; exact (List.Nodup.not_mem_erase hn) hv
      omega)
    have h2 : n ∈ l → (l.erase n).length = l.length - 1 := fun hm => List.length_erase_of_mem hm
    by_cases hm : n ∈ l
    · have := h2 hm; omega
    · rw [List.erase_of_not_mem hm] at h1; omega
theorem Core.len_le {s : HS} (h : Core s) : s.l.length ≤ s.fs.length := nodup_len _ _ h.nd h.bd
theorem Core.len_lt {s : HS} (h : Core s) {v : Nat} (hv : v < s.fs.length) (hn : v ∉ s.l) : s.l.length < s.fs.length := by
  have := nodup_len s.fs.length (v :: s.l) (List.nodup_cons.2 ⟨hn, h.nd⟩) (fun u hu => by
    rcases List.mem_cons.1 hu with rfl | hu
    · exact hv
    · exact h.bd u hu)
  simp at this
  omega

theorem inv_new (n : Nat) : Inv (newS n) := by
  refine ⟨⟨fun x hx => ?_, (by show 4607182418800017408 ≤ GREAT; decide), (by show LOW ≤ 4607182418800017408; decide)⟩, ⟨(by simp [newS]), (fun v hv => by cases hv), (by simp [newS]), (fun j _ hj => by simp [newS] at hj), (fun j hj => by simp [newS] at hj)⟩, fun v hv _ => ?_⟩
  · simp only [newS, List.mem_replicate] at hx; rw [hx.2]; decide
  · simp only [newS, List.length_replicate] at hv
    have : v < (newS n).ps.length := by simpa [newS] using hv
    rw [getD_lt _ _ this]
    simp [newS]

/-- A push keeps the row a heap. -/
theorem core_push {s : HS} (hc : Core s) (hf : FinS s.fs) {x : Nat} (hx : x < s.fs.length) (hn : x ∉ s.l) :
    Core (pushS s x) ∧ (pushS s x).l.Perm (x :: s.l) ∧ ∀ v, v ∉ x :: s.l → (pushS s x).ps.getD v 0 = s.ps.getD v 0 := by
  have hm : s.l ++ [x] = (s.l ++ [x]).set s.l.length x := by
    rw [List.set_append_right _ _ (Nat.le_refl _), Nat.sub_self, List.set_cons_zero]
  have hg : ∀ j, j < s.l.length → (s.l ++ [x]).getD j 0 = s.l.getD j 0 := fun j hj => by
    rw [getD_lt _ _ (by simp; omega), getD_lt _ _ hj, List.getElem_append_left hj]
  have hperm : (s.l ++ [x]).Perm (x :: s.l) := List.perm_append_singleton x s.l
  have H := upL_moved (ahs_sto hf) x s.l.length (s.l ++ [x]) (s.l ++ [x]) s.ps hm (by simp) (hperm.nodup_iff.2 (List.nodup_cons.2 ⟨hn, hc.nd⟩)) (fun v hv => by
      rw [hc.pl]
      rcases List.mem_cons.1 (hperm.mem_iff.1 hv) with rfl | hv
      · exact hx
      · exact hc.bd v hv) (fun j hj hji => by
      have hj' : j < s.l.length := by simp at hj; omega
      rw [hg j hj']; exact hc.pos j hj') (fun j hj0 hj hji => by
      have hj' : j < s.l.length := by simp at hj; omega
      rw [hg j hj', hg _ (by omega)]; exact hc.hp j hj0 hj') (fun h0 j hj0 hj hji => by simp at hj; omega)
  refine ⟨⟨by rw [show (pushS s x).ps.length = _ from H.len]; exact hc.pl, fun v hv => ?_, (H.perm.trans hperm).nodup_iff.2 (List.nodup_cons.2 ⟨hn, hc.nd⟩), H.heap, H.pos⟩, H.perm.trans hperm, fun v hv => H.oth v (fun e => hv (hperm.mem_iff.1 e))⟩
  rcases List.mem_cons.1 ((H.perm.trans hperm).mem_iff.1 hv) with rfl | hv
  · exact hx
  · exact hc.bd v hv

theorem inv_push {s : HS} (h : Inv s) (v : Int) : Inv (pushX s v) := by
  unfold pushX
  split
  · rename_i hc
    obtain ⟨⟨h0, h1⟩, h2⟩ := hc
    have hx : v.toNat < s.fs.length := by omega
    have hn : v.toNat ∉ s.l := fun hm => by
      obtain ⟨j, hj, e⟩ := List.getElem_of_mem hm
      have := h.co.pos j hj
      rw [getD_lt _ _ hj, e] at this
      omega
    obtain ⟨c1, c2, c3⟩ := core_push h.co h.fl.fin hx hn
    refine ⟨⟨h.fl.sc, h.fl.st, h.fl.lo⟩, c1, fun u hu hnu => ?_⟩
    have hnu' : u ∉ v.toNat :: s.l := fun e => hnu (c2.mem_iff.2 e)
    rw [c3 u hnu']
    exact h.ab u hu (fun e => hnu' (List.mem_cons_of_mem _ e))
  · exact h

theorem mem_place {s : HS} (h : Inv s) {v : Nat} (hv : v < s.fs.length) : 0 ≤ s.ps.getD v 0 ↔ v ∈ s.l := by
  constructor
  · intro h0
    refine Classical.byContradiction fun hn => ?_
    have := h.ab v hv hn; omega
  · intro hm
    obtain ⟨j, hj, e⟩ := List.getElem_of_mem hm
    have := h.co.pos j hj
    rw [getD_lt _ _ hj, e] at this
    omega
theorem place_at {s : HS} (h : Inv s) {v : Nat} (hv : v < s.fs.length) (h0 : 0 ≤ s.ps.getD v 0) : (s.ps.getD v 0).toNat < s.l.length ∧ s.l.getD (s.ps.getD v 0).toNat 0 = v := by
  obtain ⟨j, hj, e⟩ := List.getElem_of_mem ((mem_place h hv).1 h0)
  have := h.co.pos j hj
  rw [getD_lt _ _ hj, e] at this
  rw [this]
  simp only [Int.toNat_natCast]
  exact ⟨hj, by rw [getD_lt _ _ hj, e]⟩

/-- Popping. -/
theorem inv_pop {s : HS} (h : Inv s) (h0 : 0 < s.l.length) : Inv (popS s) ∧ s.l.Perm (s.l.getD 0 0 :: (popS s).l) ∧ (popS s).fs = s.fs := by
  obtain ⟨x, t, el⟩ : ∃ x t, s.l = x :: t := by
    cases hl : s.l with
    | nil => rw [hl] at h0; simp at h0
    | cons x t => exact ⟨x, t, rfl⟩
  have hx0 : s.l.getD 0 0 = x := by rw [el]; rfl
  have hnd := h.co.nd
  rw [el] at hnd
  obtain ⟨hxt, htn⟩ := List.nodup_cons.1 hnd
  have hxb : x < s.fs.length := h.co.bd x (by rw [el]; exact List.mem_cons_self)
  have hxp : x < s.ps.length := by rw [h.co.pl]; exact hxb
  have hin : ∀ v, v ∈ s.l ↔ v = x ∨ v ∈ t := fun v => by rw [el]; exact List.mem_cons
  by_cases h1 : s.l.length = 1
  · have ht : t = [] := by rw [el] at h1; simp at h1; exact h1
    have e : popS s = { s with l := [], ps := s.ps.set x (-1) } := by unfold popS; simp only; rw [if_pos h1, hx0]
    rw [e, hx0]
    refine ⟨⟨⟨h.fl.sc, h.fl.st, h.fl.lo⟩, ⟨(by simpa using h.co.pl), (fun v hv => by cases hv), (by simp), (fun j _ hj => by simp at hj), (fun j hj => by simp at hj)⟩, fun v hv _ => ?_⟩, by rw [el, ht], rfl⟩
    show (s.ps.set x (-1)).getD v 0 < 0
    rw [gset _ _ _ _ _ hxp]
    split
    · omega
    · rename_i hvx
      exact h.ab v hv (fun e => by rcases (hin v).1 e with e | e; · exact hvx e
                                   · rw [ht] at e; cases e)
  · have htl : 0 < t.length := by
      rw [el] at h1
      cases t with
      | nil => exact absurd rfl h1
      | cons a r => simp
    have hL : s.l.length = t.length + 1 := by rw [el]; rfl
    obtain ⟨y, ey⟩ : ∃ y, y = s.l.getD (s.l.length - 1) 0 := ⟨_, rfl⟩
    obtain ⟨m, em⟩ : ∃ m, m = (s.l.take (s.l.length - 1)).set 0 y := ⟨_, rfl⟩
    have hyt : y = t.getLast (by intro e; rw [e] at htl; simp at htl) := by
      rw [ey, getD_lt _ _ (by omega)]
      simp only [el, List.length_cons, Nat.add_sub_cancel]
      rw [List.getElem_cons]
      rw [dif_neg (by omega), List.getLast_eq_getElem]
    have hm : m = y :: t.dropLast := by
      rw [em, hL, el, Nat.add_sub_cancel]
      obtain ⟨k, hk⟩ : ∃ k, t.length = k + 1 := ⟨t.length - 1, by omega⟩
      rw [hk, List.take_succ_cons, List.set_cons_zero, List.dropLast_eq_take, hk, Nat.add_sub_cancel]
    have hmt : m.Perm t := by
      have : t.dropLast ++ [y] = t := by rw [hyt]; exact List.dropLast_concat_getLast _
      rw [hm]
      exact (List.perm_append_singleton y t.dropLast).symm.trans (by rw [this])
    have hml : m.length = s.l.length - 1 := by rw [em]; simp
    have hg : ∀ j, 0 < j → j < m.length → m.getD j 0 = s.l.getD j 0 := fun j hj0 hj => by
      rw [em, gset _ _ _ _ _ (by simp; omega), if_neg (by omega), getD_lt _ _ (by simp; omega), getD_lt _ _ (by omega), List.getElem_take]
    have hset : m = m.set 0 y := by rw [hm, List.set_cons_zero]
    have H := downL_moved (ahs_sto h.fl.fin) y (m.length - 0) 0 m m s.ps rfl hset (by omega) (hmt.nodup_iff.2 htn) (fun v hv => by
        rw [h.co.pl]; exact h.co.bd v ((hin v).2 (.inr (hmt.mem_iff.1 hv)))) (fun j hj hj0 => by
        rw [hg j (by omega) hj]; exact h.co.pos j (by omega)) (fun j hj0 hj hp => by
        rw [hg j hj0 hj, hg _ (by omega) (by omega)]; exact h.co.hp j hj0 (by omega)) (fun h0 => absurd h0 (by omega))
    have e : popS s = { s with l := (downL (ahs s.fs) y 0 m s.ps).1, ps := (downL (ahs s.fs) y 0 m s.ps).2.set x (-1) } := by
      unfold popS; simp only; rw [if_neg h1, hx0, ← ey, ← em]
    rw [e, hx0]
    have hfin := H.perm.trans hmt
    have hxn : x ∉ (downL (ahs s.fs) y 0 m s.ps).1 := fun e => hxt (hfin.mem_iff.1 e)
    refine ⟨⟨⟨h.fl.sc, h.fl.st, h.fl.lo⟩, ⟨?_, fun v hv => ?_, hfin.nodup_iff.2 htn, H.heap, fun j hj => ?_⟩, fun v hv hvn => ?_⟩, by rw [el]; exact List.Perm.cons x hfin.symm, rfl⟩
    · show ((downL (ahs s.fs) y 0 m s.ps).2.set x (-1)).length = _
      rw [List.length_set, H.len]; exact h.co.pl
    · exact h.co.bd v ((hin v).2 (.inr (hfin.mem_iff.1 hv)))
    · show ((downL (ahs s.fs) y 0 m s.ps).2.set x (-1)).getD _ 0 = _
      rw [gset _ _ _ _ _ (by rw [H.len]; exact hxp), if_neg (fun e => hxn (by rw [← e]; exact mem_getD hj))]
      exact H.pos j hj
    · show ((downL (ahs s.fs) y 0 m s.ps).2.set x (-1)).getD v 0 < 0
      rw [gset _ _ _ _ _ (by rw [H.len]; exact hxp)]
      split
      · omega
      · rename_i hvx
        have hvt : v ∉ t := fun e => hvn (hfin.mem_iff.2 e)
        rw [H.oth v (fun e => hvt (hmt.mem_iff.1 e))]
        exact h.ab v hv (fun e => by rcases (hin v).1 e with e | e; · exact hvx e
                                     · exact hvt e)
end Go.Proofs.Ytldgeclcbikmbaa
