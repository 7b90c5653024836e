/- Grow of a store. -/
import Derived.Test.YtgdnehejeoiicaaSuF
set_option linter.unusedVariables false
set_option linter.unusedSimpArgs false
namespace Go.Proofs.Ytgdnehejeoiicaa
open Go.RowKit

theorem StoreAt.grew {w w3 : World} {U : Nat} {vs cs ms v' : Value} {cv : List Value} {st : US} {o : Obj} (h : StoreAt w U vs cs ms cv st)
    (hn : st.n < 262144) (hg : (w.alloc o).grownBy w3 vs.ownBlock) (hown : w3.ownsRow 0 3 1 v' (st.n + 1 + 1) (ivl st.vals ++ [.int .i64 0])) (hat : v'.ownBlock = vs.ownBlock ∨ v'.ownBlock = some (w.alloc o).heap.size) :
    StoreAt (w3.setCell ⟨U, 1, none⟩ v') U v' cs ms cv { st with n := st.n + 1, vals := st.vals ++ [0] } ∧ Fr (fun b => vs.ownBlock = some b ∨ b = U) w (w3.setCell ⟨U, 1, none⟩ v') ∧ (∀ b, v'.ownBlock = some b → vs.ownBlock = some b ∨ w.heap.size ≤ b) := by
  have k0 : Fr (fun b => vs.ownBlock = some b) w w3 := (Fr.alloc w o).trans (Fr.of_grown hg) (fun _ _ e => e.elim) (fun _ _ e => e.symm)
  have k1 := Fr.set w3 ⟨U, 1, none⟩ v'
  obtain ⟨r1, r2, r3, r4⟩ := h.rowU
  have hn' : ∀ b, v'.ownBlock = some b → vs.ownBlock = some b ∨ w.heap.size ≤ b := by
    intro b hb
    rcases hat with e | e
    · exact .inl (by rw [← e]; exact hb)
    · rw [e] at hb
      simp only [Option.some.injEq] at hb
      exact .inr (by rw [← hb]; simp)
  have hvU : v'.ownBlock ≠ some U := fun e => by
    rcases hn' U e with e | e
    · exact r1 e
    · have := h.hU.lt; omega
  have kk : Fr (fun b => vs.ownBlock = some b ∨ b = U) w (w3.setCell ⟨U, 1, none⟩ v') := k0.trans k1 (fun _ _ e => .inl e) (fun _ _ e => .inr e)
  refine ⟨?_, kk, hn'⟩
  constructor
  · exact (h.hU.keep k0 r1).set 1 v'
  · have := k1.owns hown (fun g hg e => hvU (by rw [hg]; exact congrArg some e))
    simpa [ivl] using this
  · exact kk.owns h.hc (fun g e => by
      rintro (e' | e')
      · exact rows_apart h.hc h.hv (by decide) e e'
      · exact r2 (by rw [← e']; exact e))
  · exact kk.owns h.hm (fun g e => by
      rintro (e' | e')
      · exact rows_apart h.hm h.hv (by decide) e e'
      · exact r3 (by rw [← e']; exact e))
  · exact h.hl
  · intro i hi
    obtain ⟨xs', e, ho, hb'⟩ := h.hr i hi
    have hm : cv.getD i (.bool false) ∈ cv := by rw [List.getD_eq_getElem?_getD, List.getElem?_eq_getElem hi]; exact List.getElem_mem hi
    refine ⟨xs', e, kk.owns ho (fun g e' => ?_), hb'⟩
    rintro (e'' | e'')
    · exact h.hd _ hm g e' e''
    · exact r4 _ hm (by rw [← e'']; exact e')
  · simp; omega
  · exact h.hk
  · exact h.hmn
  · intro v hv g e e'
    rcases hn' g e' with k | k
    · exact h.hd v hv g e k
    · have := cv_lt h hv e; omega

set_option maxHeartbeats 1600000 in
set_option maxRecDepth 20000 in
theorem ugrow_ok {w : World} {U : Nat} {st : US} {N : Nat → Prop} (hN : ∀ b, N b → b < w.heap.size) (h : StoreN N w U st) (hn : st.n < 262144) :
    Calls Try.prog 26 #[.pointer (some ⟨U, 0, none⟩)] w fun e w' => e = .returned (.tuple #[.int .i64 ((st.n + 1 : Nat) : Int), .int .i64 0]) ∧ StoreN N w' U { st with n := st.n + 1, vals := st.vals ++ [0] } ∧ Fr (fun b => ¬ N b) w w' := by
  obtain ⟨i0, hi0, hz0, hz1, hz2⟩ := info_parts info_int
  obtain ⟨vs, cs, ms, cv, h, b1, b2, b3, b4, b5⟩ := h
  have hi := uis_ok h
  have ha := uatoms_ok h
  obtain ⟨aov, capv, ev⟩ := owns_form h.hv
  have cU1 : w.cell? ⟨U, 1, none⟩ = some vs := h.hU.cell rfl
  have hown0 := (Fr.alloc w (.cells #[.int .i64 0] 3)).owns h.hv (fun _ _ e => e)
  obtain ⟨n, en⟩ : ∃ n, n = st.n := ⟨_, rfl⟩
  obtain ⟨cc, ecc⟩ : ∃ cc, cc = ivl st.vals := ⟨_, rfl⟩
  rw [← en] at ev hn ha
  rw [← en, ← ecc] at hown0
  rw [← en]
  have bn : ((n : Int) == 262144) = false := by simp; omega
  have HEV := Lib.hid ev
  have HEN := Lib.hid en
  have HCC := Lib.hid ecc
  have HH := Lib.hid h
  have HNN := Lib.hid hN
  have HB := Lib.hid (And.intro b1 (And.intro b2 (And.intro b3 (And.intro b4 b5))))
  rw [ev] at cU1 hown0
  clear h ev en ecc hN b1 b2 b3 b4 b5
  go_enter Try.func26, Try.ntmps26
  go_wp2_with (first
    | (go_at_call 36; ((with_reducible refine hi.mono ?_); rintro e w' ⟨rfl, rfl⟩))
    | (go_at_call 19; ((with_reducible refine ha.mono ?_); rintro e w' ⟨rfl, rfl⟩))
    | (at_builtin; go_loud (refine wpList_append_own_at _ rfl (.tmp 16) (.tmp 17) 22 rfl 0 3 i0 (.int .i64 0) 1 8 und_ints hi0 hz0 hz1 hz2 rfl (by decide) (.slice aov (n + 1) capv) (n + 1) cc rfl hown0 ⟨w.heap.size, 0, none⟩ 1 1 [.int .i64 0] rfl rfl (cell_one_new _ _ _) (by simp [Value.oneCell']) (by unfold maxLen; omega) (by omega) (Nat.zero_le _) ?_)
       intro v' w1 hown1 hg1 hnil1 hat1
       obtain ⟨g', cap', rfl⟩ := owns_shape hown1 (by omega)
       rw [HCC.out] at hown1
       rw [HEN.out] at hown1 hn
       rw [← HEV.out] at hg1 hat1
       have k0 : Fr (fun b => vs.ownBlock = some b) w w1 := (Fr.alloc w _).trans (Fr.of_grown hg1) (fun _ _ e => e.elim) (fun _ _ e => e.symm)
       have bU := HH.out.hU.keep k0 HH.out.rowU.1
       have d1 := bU.cell (i := 1) rfl
       have d2 := bU.free 1
       obtain ⟨G1, G2, G3⟩ := HH.out.grew hn hg1 hown1 hat1
       rw [← HEN.out] at hown1 hn
       have HG1 := Lib.hid G1
       have HG2 := Lib.hid G2
       have HG3 := Lib.hid G3
       rw [HEV.out] at d1
       clear G1 G2 G3 k0 bU hg1 hat1 hown1 hnil1))
  obtain rfl := HEN.out
  refine (uatoms_ok HG1.out).mono ?_
  rintro e w' ⟨rfl, rfl⟩
  go_wp2_with fail
  go_ret2
  have hB := HB.out
  obtain ⟨b1, b2, b3, b4, b5⟩ := hB
  refine ⟨rfl, ⟨_, cs, ms, cv, HG1.out, b1, fun g e => ?_, b3, b4, b5⟩, HG2.out.mono (fun b hb e => ?_)⟩
  · rcases HG3.out g e with e' | e'
    · exact b2 g e'
    · exact fun k => by have := HNN.out g k; omega
  · rcases e with e | e
    · exact b2 b e
    · rw [e]; exact b1
end Go.Proofs.Ytgdnehejeoiicaa
