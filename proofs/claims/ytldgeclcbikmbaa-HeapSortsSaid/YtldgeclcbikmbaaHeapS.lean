/- The heap's invariant behind Bump and Decay, in plain Lean. -/
import Derived.Test.YtldgeclcbikmbaaHeapR
set_option linter.unusedVariables false
set_option linter.unusedSimpArgs false
namespace Go.Proofs.Ytldgeclcbikmbaa
open Flt

theorem fold_core (xs : List Nat) : ∀ s : HS, Core s → FinS s.fs → (∀ x ∈ xs, x < s.fs.length) → xs.Nodup → (∀ x ∈ xs, x ∉ s.l) →
    Core (xs.foldl pushS s) ∧ (xs.foldl pushS s).l.Perm (xs ++ s.l) ∧ ∀ v, v ∉ xs → v ∉ s.l → (xs.foldl pushS s).ps.getD v 0 = s.ps.getD v 0 := by
  induction xs with
  | nil => intro s hc _ _ _ _; exact ⟨hc, List.Perm.refl _, fun _ _ _ => rfl⟩
  | cons x r ih =>
    intro s hc hf hb hn hd
    obtain ⟨hxr, hrn⟩ := List.nodup_cons.1 hn
    obtain ⟨c1, c2, c3⟩ := core_push hc hf (hb x List.mem_cons_self) (hd x List.mem_cons_self)
    have hfs : (pushS s x).fs = s.fs := rfl
    obtain ⟨d1, d2, d3⟩ := ih (pushS s x) c1 hf (fun u hu => hb u (List.mem_cons_of_mem _ hu)) hrn (fun u hu hm => by
      rcases List.mem_cons.1 (c2.mem_iff.1 hm) with e | e
      · subst e; exact hxr hu
      · exact hd u (List.mem_cons_of_mem _ hu) e)
    rw [List.foldl_cons]
    refine ⟨d1, ?_, fun v hv1 hv2 => ?_⟩
    · refine d2.trans ((List.Perm.append_left r c2).trans ?_)
      rw [List.cons_append]
      exact List.perm_middle
    · have hv3 : v ∉ x :: s.l := fun e => by
        rcases List.mem_cons.1 e with e | e
        · exact hv1 (by rw [e]; exact List.mem_cons_self)
        · exact hv2 e
      rw [d3 v (fun e => hv1 (List.mem_cons_of_mem _ e)) (fun e => hv3 (c2.mem_iff.1 e)), c3 v hv3]

/-- Made small. -/
theorem inv_less {s : HS} (hpl : s.ps.length = s.fs.length) (hbd : ∀ v ∈ s.l, v < s.fs.length) (hnd : s.l.Nodup) (hab : ∀ v, v < s.fs.length → v ∉ s.l → s.ps.getD v 0 < 0)
    (hsc : ∀ x ∈ s.fs, x ≤ GREAT2) (hst : s.step ≤ GREAT2) (hlo : 2 ^ pl GREAT ≤ 2 * U s.step) : Inv (lessS s) ∧ (lessS s).l.Perm s.l ∧ (lessS s).fs.length = s.fs.length := by
  obtain ⟨s0, e0⟩ : ∃ s0 : HS, s0 = { s with fs := s.fs.map (fmul · small), l := [], step := fmul s.step small } := ⟨_, rfl⟩
  have hf : ∀ x ∈ s0.fs, x ≤ GREAT := fun x hx => by
    rw [e0] at hx
    obtain ⟨y, hy, rfl⟩ := List.mem_map.1 hx
    exact (fmul_ok (hsc y hy)).2
  have hlen : s0.fs.length = s.fs.length := by rw [e0]; simp
  have hl0 : s0.l = [] := by rw [e0]
  have hp0 : s0.ps = s.ps := by rw [e0]
  have hs0 : s0.step = fmul s.step small := by rw [e0]
  have hc : Core s0 := ⟨(by rw [hp0, hlen]; exact hpl), (fun v hv => by rw [hl0] at hv; cases hv), (by rw [hl0]; exact List.nodup_nil), (fun j _ hj => by rw [hl0] at hj; simp at hj), (fun j hj => by rw [hl0] at hj; simp at hj)⟩
  obtain ⟨d1, d2, d3⟩ := fold_core s.l s0 hc (fun x hx => lt_inf (hf x hx)) (fun x hx => by rw [hlen]; exact hbd x hx) hnd (fun x _ => by rw [hl0]; simp)
  obtain ⟨f1, f2⟩ := foldl_push_fs s.l s0
  have el : lessS s = s.l.foldl pushS s0 := by unfold lessS; rw [e0]
  rw [hl0, List.append_nil] at d2
  rw [el]
  refine ⟨⟨⟨by rw [f1]; exact hf, by rw [f2, hs0]; exact (fmul_ok hst).2, by rw [f2, hs0]; exact fmul_low hst hlo⟩, d1, fun v hv hn => ?_⟩, d2, by rw [f1, hlen]⟩
  have hn' : v ∉ s.l := fun e => hn (d2.mem_iff.2 e)
  rw [d3 v hn' (by rw [hl0]; simp), hp0]
  exact hab v (by rw [f1, hlen] at hv; exact hv) hn'

theorem inv_decay {s : HS} (h : Inv s) : Inv (decayS s) ∧ (decayS s).l.Perm s.l ∧ (decayS s).fs.length = s.fs.length := by
  have h0 : 0 < s.step := by have := h.fl.lo; unfold LOW at this; omega
  obtain ⟨d1, d2, d3⟩ := fdiv_ok h.fl.st h0
  unfold decayS
  split
  · rename_i hg
    exact inv_less (s := { s with step := fdiv s.step fade }) h.co.pl h.co.bd h.co.nd h.ab (fun x hx => Nat.le_trans (h.fl.sc x hx) (by decide)) d2 (great_low ((isGreat_iff (lt_inf2 d2)).1 hg))
  · rename_i hg
    have hle : fdiv s.step fade ≤ GREAT := Nat.le_of_not_lt fun e => hg ((isGreat_iff (lt_inf2 d2)).2 e)
    exact ⟨⟨⟨h.fl.sc, hle, Nat.le_trans h.fl.lo d3⟩, ⟨h.co.pl, h.co.bd, h.co.nd, h.co.hp, h.co.pos⟩, h.ab⟩, List.Perm.refl _, rfl⟩

/-- A raised score's variable moves up. -/
theorem core_rise {s : HS} (h : Inv s) {a y : Nat} (ha : a < s.fs.length) (hy : s.fs.getD a 0 ≤ y) (hyi : y < INF) :
    (riseS { s with fs := s.fs.set a y } a).ps.length = s.fs.length ∧ (riseS { s with fs := s.fs.set a y } a).l.Perm s.l ∧ Heap (ahs (s.fs.set a y)) (riseS { s with fs := s.fs.set a y } a).l ∧
      Pos (riseS { s with fs := s.fs.set a y } a).l (riseS { s with fs := s.fs.set a y } a).ps ∧ (∀ v, v ∉ s.l → (riseS { s with fs := s.fs.set a y } a).ps.getD v 0 = s.ps.getD v 0) := by
  have hF : FinS s.fs := h.fl.fin
  have hF' : FinS (s.fs.set a y) := fun x hx => by
    rcases List.mem_or_eq_of_mem_set hx with e | e
    · exact hF x e
    · rw [e]; exact hyi
  have hg : ∀ v, (s.fs.set a y).getD v 0 = if v = a then y else s.fs.getD v 0 := fun v => gset _ _ _ _ _ ha
  -- what is not a stands as it stood; a has gone ahead
  have hsame : ∀ u v, u ≠ a → ahs s.fs u v = false → ahs (s.fs.set a y) u v = false := by
    intro u v hu huv
    have h1 : ¬ ahs s.fs u v = true := by rw [huv]; simp
    cases hc : ahs (s.fs.set a y) u v
    · rfl
    · exfalso
      rw [ahs_iff hF'] at hc
      rw [ahs_iff hF] at h1
      rw [hg, hg, if_neg hu] at hc
      by_cases hva : v = a
      · subst hva; rw [if_pos rfl] at hc; omega
      · rw [if_neg hva] at hc; omega
  unfold riseS
  simp only
  split
  · rename_i h0
    obtain ⟨hi, hia⟩ := place_at h ha h0
    rw [hia]
    obtain ⟨i, ei⟩ : ∃ i, i = (s.ps.getD a 0).toNat := ⟨_, rfl⟩
    rw [← ei] at hi hia ⊢
    have hset : s.l = s.l.set i a := by
      apply List.ext_getElem
      · simp
      · intro j h1 h2
        rw [List.getElem_set]
        split
        · rename_i e; subst e; rw [← getD_lt _ 0 hi]; exact hia
        · rfl
    have hne : ∀ j, j < s.l.length → j ≠ i → s.l.getD j 0 ≠ a := fun j hj hji e => hji (nodup_inj h.co.nd hj hi (by rw [e, hia]))
    have H := upL_moved (ahs_sto hF') a i s.l s.l s.ps hset hi h.co.nd (fun v hv => by rw [h.co.pl]; exact h.co.bd v hv) (fun j hj _ => h.co.pos j hj)
      (fun j hj0 hj hji => hsame _ _ (hne j hj hji) (h.co.hp j hj0 hj)) (fun hi0 j hj0 hj hji => by
        refine hsame _ _ (hne j hj (by omega)) ((ahs_sto hF).ntr (b := s.l.getD i 0) ?_ (h.co.hp i hi0 hi))
        have := h.co.hp j hj0 hj
        rw [hji] at this
        exact this)
    exact ⟨by rw [H.len]; exact h.co.pl, H.perm, H.heap, H.pos, H.oth⟩
  · rename_i h0
    have hna : a ∉ s.l := fun e => h0 ((mem_place h ha).2 e)
    refine ⟨h.co.pl, List.Perm.refl _, fun j hj0 hj => hsame _ _ (fun e => hna (by rw [← e]; exact mem_getD hj)) (h.co.hp j hj0 hj), h.co.pos, fun _ _ => rfl⟩

theorem inv_bump {s : HS} (h : Inv s) {a : Nat} (ha : a < s.fs.length) : Inv (bumpS s a) ∧ (bumpS s a).l.Perm s.l ∧ (bumpS s a).fs.length = s.fs.length := by
  obtain ⟨f1, f2, f3, f4⟩ := fadd_ok (h.fl.getG ha) h.fl.st
  obtain ⟨y, ey⟩ : ∃ y, y = fadd (s.fs.getD a 0) s.step := ⟨_, rfl⟩
  rw [← ey] at f2 f3 f4
  have eR : raiseS s a = { s with fs := s.fs.set a y } := by unfold raiseS; rw [← ey]
  have hyi : y < INF := lt_inf2 f2
  obtain ⟨c1, c2, c3, c4, c5⟩ := core_rise h ha f3 hyi
  have hry : ({ s with fs := s.fs.set a y } : HS).fs.getD a 0 = y := by
    show (s.fs.set a y).getD a 0 = y
    rw [gset _ _ _ _ _ ha, if_pos rfl]
  unfold bumpS
  rw [eR, hry]
  obtain ⟨q, eq⟩ : ∃ q, q = riseS { s with fs := s.fs.set a y } a := ⟨_, rfl⟩
  have qf : q.fs = s.fs.set a y := by rw [eq]; unfold riseS; split <;> rfl
  have qs : q.step = s.step := by rw [eq]; unfold riseS; split <;> rfl
  rw [← eq] at c1 c2 c3 c4 c5 ⊢
  have hql : q.fs.length = s.fs.length := by rw [qf, List.length_set]
  have hab : ∀ v, v < q.fs.length → v ∉ q.l → q.ps.getD v 0 < 0 := fun v hv hn => by
    have hn' : v ∉ s.l := fun e => hn (c2.mem_iff.2 e)
    rw [c5 v hn']
    exact h.ab v (by rw [← hql]; exact hv) hn'
  have hbd : ∀ v ∈ q.l, v < q.fs.length := fun v hv => by rw [hql]; exact h.co.bd v (c2.mem_iff.1 hv)
  have hnd : q.l.Nodup := c2.nodup_iff.2 h.co.nd
  have hpl : q.ps.length = q.fs.length := by rw [c1, hql]
  split
  · rename_i hgr
    have hgy := (isGreat_iff hyi).1 hgr
    obtain ⟨k1, k2, k3⟩ := inv_less hpl hbd hnd hab (fun x hx => by
      rw [qf] at hx
      rcases List.mem_or_eq_of_mem_set hx with e | e
      · exact Nat.le_trans (h.fl.sc x e) (by decide)
      · rw [e]; exact f2) (by rw [qs]; exact Nat.le_trans h.fl.st (by decide)) (by rw [qs]; exact f4 hgy)
    exact ⟨k1, k2.trans c2, by rw [k3, hql]⟩
  · rename_i hgr
    have hgy : y ≤ GREAT := Nat.le_of_not_lt fun e => hgr ((isGreat_iff hyi).2 e)
    refine ⟨⟨⟨fun x hx => ?_, by rw [qs]; exact h.fl.st, by rw [qs]; exact h.fl.lo⟩, ⟨hpl, hbd, hnd, by rw [qf]; exact c3, c4⟩, hab⟩, c2, hql⟩
    rw [qf] at hx
    rcases List.mem_or_eq_of_mem_set hx with e | e
    · exact h.fl.sc x e
    · rw [e]; exact hgy
end Go.Proofs.Ytldgeclcbikmbaa
