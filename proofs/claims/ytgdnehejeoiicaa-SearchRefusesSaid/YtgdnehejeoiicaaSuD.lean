/- units.New, Grow and Add of a store. -/
import Derived.Test.YtgdnehejeoiicaaSuC
import Derived.Deep.RegionWith
set_option linter.unusedVariables false
set_option linter.unusedSimpArgs false
namespace Go.Proofs.Ytgdnehejeoiicaa
open Go.RowKit

theorem info_watched : (Try.prog.info? 85).map (fun i => (i.zero, i.size, i.bytes)) = some (some (.agg #[.slice none 0 0, .int .i64 0, .int .i64 0]), 3, 40) := by kernel_rfl
theorem und_watcheds : Try.prog.underlying 72 = some (.slice 85) := by kernel_rfl

theorem StoreAt.rowU {w : World} {U : Nat} {vs cs ms : Value} {cv : List Value} {st : US} (h : StoreAt w U vs cs ms cv st) : vs.ownBlock ≠ some U ∧ cs.ownBlock ≠ some U ∧ ms.ownBlock ≠ some U ∧ (∀ v ∈ cv, v.ownBlock ≠ some U) := by
  have key : ∀ {v : Value} {n : Nat} {T : TypeId} {size : Nat} {xs : List Value}, w.ownsRow 0 T size v n xs → T ≠ 74 → v.ownBlock ≠ some U := by
    intro v n T size xs ho hT e
    rcases owns_blk ho with ⟨rfl, _, _⟩ | ⟨g, cap, more, rfl, _, hgb, _⟩
    · simp [Value.ownBlock] at e
    · simp only [Value.ownBlock, Option.some.injEq] at e
      subst e
      exact hT (hgb.inj h.hU).2
  refine ⟨key h.hv (by decide), key h.hc (by decide), key h.hm (by decide), fun v hv => ?_⟩
  obtain ⟨i, hi, rfl⟩ := List.getElem_of_mem hv
  obtain ⟨xs, _, ho, _⟩ := h.hr i hi
  rw [List.getD_eq_getElem?_getD, List.getElem?_eq_getElem hi] at ho
  exact key ho (by decide)
/-- Rows of different elements lie apart. -/
theorem rows_apart {w : World} {v v' : Value} {n n' b b' : Nat} {T T' : TypeId} {s s' : Nat} {xs xs' : List Value} (h : w.ownsRow b T s v n xs) (h' : w.ownsRow b' T' s' v' n' xs') (hT : T ≠ T') {g : Nat} (e : v.ownBlock = some g) : v'.ownBlock ≠ some g := by
  intro e'
  rcases owns_blk h with ⟨rfl, _, _⟩ | ⟨g1, cap, more, rfl, _, hgb, _⟩
  · simp [Value.ownBlock] at e
  · rcases owns_blk h' with ⟨rfl, _, _⟩ | ⟨g2, cap', more', rfl, _, hgb', _⟩
    · simp [Value.ownBlock] at e'
    · simp only [Value.ownBlock, Option.some.injEq] at e e'
      subst e
      subst e'
      exact hT (hgb.inj hgb').2

theorem StoreAt.added {w w3 : World} {U B1 : Nat} {vs cs ms c' v' : Value} {cv : List Value} {st : US} {xs : List Int} {o : Obj} (h : StoreAt w U vs cs ms cv st)
    (hk : st.cls.length < 1048576) (hb : xs.length * 8 ≤ 140737488351232) (hcl : w.ownsRow B1 3 1 c' xs.length (ivl xs)) (hB : ∀ g, vs.ownBlock = some g → g < B1)
    (hg : (w.alloc o).grownBy w3 cs.ownBlock) (hown : w3.ownsRow 0 85 3 v' (st.cls.length + 1) (clCells st.cls cv ++ [c', .int .i64 0, .int .i64 0])) (hat : v'.ownBlock = cs.ownBlock ∨ v'.ownBlock = some (w.alloc o).heap.size) :
    StoreAt (w3.setCell ⟨U, 2, none⟩ v') U vs v' ms (cv ++ [c']) { st with cls := st.cls ++ [⟨xs, 0, 0⟩] } ∧ Fr (fun b => cs.ownBlock = some b ∨ b = U) w (w3.setCell ⟨U, 2, none⟩ v') ∧ (∀ b, v'.ownBlock = some b → cs.ownBlock = some b ∨ w.heap.size ≤ b) := by
  have k0 : Fr (fun b => cs.ownBlock = some b) w w3 := (Fr.alloc w o).trans (Fr.of_grown hg) (fun _ _ e => e.elim) (fun _ _ e => e.symm)
  have k1 := Fr.set w3 ⟨U, 2, none⟩ v'
  obtain ⟨r1, r2, r3, r4⟩ := h.rowU
  have hn : ∀ b, v'.ownBlock = some b → cs.ownBlock = some b ∨ w.heap.size ≤ b := by
    intro b hb
    rcases hat with e | e
    · exact .inl (by rw [← e]; exact hb)
    · rw [e] at hb
      simp only [Option.some.injEq] at hb
      exact .inr (by rw [← hb]; simp)
  have hvU : v'.ownBlock ≠ some U := fun e => by
    rcases hn U e with e | e
    · exact r2 e
    · have := h.hU.lt; omega
  have kk : Fr (fun b => cs.ownBlock = some b ∨ b = U) w (w3.setCell ⟨U, 2, none⟩ v') := k0.trans k1 (fun _ _ e => .inl e) (fun _ _ e => .inr e)
  have hc'c : ∀ g, c'.ownBlock = some g → ¬ (cs.ownBlock = some g ∨ g = U) := by
    intro g e
    rintro (e' | e')
    · exact rows_apart hcl h.hc (by decide) e e'
    · subst e'
      rcases owns_blk hcl with ⟨rfl, _, _⟩ | ⟨g1, cap, more, rfl, _, hgb, _⟩
      · simp [Value.ownBlock] at e
      · simp only [Value.ownBlock, Option.some.injEq] at e
        subst e
        exact (by decide : 3 ≠ 74) (hgb.inj h.hU).2
  refine ⟨?_, kk, hn⟩
  constructor
  · exact (h.hU.keep k0 r2).set 2 v'
  · exact kk.owns h.hv (fun g e => by
      rintro (e' | e')
      · exact rows_apart h.hv h.hc (by decide) e e'
      · exact r1 (by rw [← e']; exact e))
  · have := k1.owns hown (fun g hg e => hvU (by rw [hg]; exact congrArg some e))
    rw [List.length_append, List.length_singleton, clCells_app _ _ _ _ h.hl]
    exact this
  · exact kk.owns h.hm (fun g e => by
      rintro (e' | e')
      · exact rows_apart h.hm h.hc (by decide) e e'
      · exact r3 (by rw [← e']; exact e))
  · simp [h.hl]
  · intro i hi
    simp only [List.length_append, List.length_singleton] at hi
    by_cases hlt : i < cv.length
    · obtain ⟨xs', e, ho, hb'⟩ := h.hr i hlt
      refine ⟨xs', ?_, ?_, hb'⟩
      · rw [List.map_append, List.getElem?_append_left (by simp [h.hl]; exact hlt)]
        exact e
      · have eg : (cv ++ [c']).getD i (.bool false) = cv.getD i (.bool false) := by
          rw [List.getD_eq_getElem?_getD, List.getD_eq_getElem?_getD, List.getElem?_append_left hlt]
        rw [eg]
        refine kk.owns ho (fun g e' => ?_)
        rintro (e'' | e'')
        · exact rows_apart ho h.hc (by decide) e' e''
        · have hm : cv.getD i (.bool false) ∈ cv := by rw [List.getD_eq_getElem?_getD, List.getElem?_eq_getElem hlt]; exact List.getElem_mem hlt
          exact r4 _ hm (by rw [← e'']; exact e')
    · have ei : i = cv.length := by omega
      refine ⟨xs, ?_, ?_, hb⟩
      · rw [ei, List.map_append, List.getElem?_append_right (by simp [h.hl])]
        simp [h.hl]
      · have eg : (cv ++ [c']).getD i (.bool false) = c' := by
          rw [List.getD_eq_getElem?_getD, ei]; simp
        rw [eg]
        have hcl0 : w.ownsRow 0 3 1 c' xs.length (ivl xs) := by
          rcases owns_blk hcl with ⟨rfl, h0, e0⟩ | ⟨g1, cap, more, rfl, _, hgb, q1, q2, q3⟩
          · exact ⟨hcl.1, .inl ⟨rfl, h0⟩⟩
          · exact blk_owns (Nat.zero_le _) hgb q1 q2 q3 hcl.1
        exact kk.owns hcl0 hc'c
  · exact h.hn
  · simp; omega
  · exact h.hmn
  · intro v hv g e
    rcases List.mem_append.1 hv with hv | hv
    · exact h.hd v hv g e
    · simp at hv
      subst hv
      intro e'
      have h1 := hB g e'
      rcases owns_blk hcl with ⟨rfl, _, _⟩ | ⟨g1, cap, more, rfl, hg1, _⟩
      · simp [Value.ownBlock] at e
      · simp only [Value.ownBlock, Option.some.injEq] at e
        omega
end Go.Proofs.Ytgdnehejeoiicaa
