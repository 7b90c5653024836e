/- Grow of a solver. -/
import Derived.Test.YtgdnehejeoiicaaSuM
set_option linter.unusedVariables false
set_option linter.unusedSimpArgs false
namespace Go.Proofs.Ytgdnehejeoiicaa
open Go.RowKit

set_option maxHeartbeats 800000 in
theorem ugrow_full {w : World} {U : Nat} {vs cs ms : Value} {cv : List Value} {st : US} (h : StoreAt w U vs cs ms cv st) (hn : st.n = 262144) :
    Calls Try.prog 26 #[.pointer (some ⟨U, 0, none⟩)] w fun e w' => e = .returned (.tuple #[.int .i64 0, .int .i64 2]) ∧ w = w' := by
  have hi := uis_ok h
  have ha := uatoms_ok h
  rw [hn] at ha
  have ha' : Calls Try.prog 19 #[.pointer (some ⟨U, 0, none⟩)] w fun e w' => e = .returned (.int .i64 262144) ∧ w = w' := ha
  clear h hn ha
  go_enter Try.func26, Try.ntmps26
  go_wp2_with (first
    | (go_at_call 36; ((with_reducible refine hi.mono ?_); rintro e w' ⟨rfl, rfl⟩))
    | (go_at_call 19; ((with_reducible refine ha'.mono ?_); rintro e w' ⟨rfl, rfl⟩)))
  go_ret2
  exact ⟨rfl, rfl⟩

set_option maxHeartbeats 800000 in
theorem sgrow_full {N : Nat → Prop} {w : World} {S U : Nat} {st : US} (h : SolverN N w S U st) (hn : st.n = 262144) :
    Calls Try.prog 10 #[.pointer (some ⟨S, 0, none⟩)] w fun e w' => e = .returned (.tuple #[.int .i64 0, .int .i64 2]) ∧ w = w' := by
  obtain ⟨hp, ph, sts, pl, mp, ad, h, huN, hO, had⟩ := h
  obtain ⟨vs, cs, ms, cv, hu, _⟩ := huN
  have hi := sis_ok h
  have hg := ugrow_full hu hn
  have c2 : w.cell? ⟨S, 2, none⟩ = some (.pointer (some ⟨U, 0, none⟩)) := h.hS.cell rfl
  clear h hu hO had hn
  go_enter Try.func10, Try.ntmps10
  go_wp2_with (first
    | (go_at_call 18; ((with_reducible refine hi.mono ?_); rintro e w' ⟨rfl, rfl⟩))
    | (go_at_call 26; ((with_reducible refine hg.mono ?_); rintro e w' ⟨rfl, rfl⟩)))
  go_ret2
  exact ⟨rfl, rfl⟩

set_option maxHeartbeats 1600000 in
set_option maxRecDepth 20000 in
theorem sgrow_ok {N : Nat → Prop} {w : World} {S U : Nat} {st : US} (hN : ∀ b, N b → b < w.heap.size) (h : SolverN N w S U st) (hn : st.n < 262144) :
    Calls Try.prog 10 #[.pointer (some ⟨S, 0, none⟩)] w fun e w' => e = .returned (.tuple #[.int .i64 ((st.n + 1 : Nat) : Int), .int .i64 0]) ∧ SolverN N w' S U { st with n := st.n + 1, vals := st.vals ++ [0] } ∧ Fr (fun b => ¬ N b) w w' := by
  obtain ⟨hp, ph, sts, pl, mp, ad, h, huN, hO, had⟩ := h
  have hi := sis_ok h
  have hg := ugrow_ok (fun b hb => hb.elim (hN b) (fun e => h.own_lt e)) huN hn
  obtain ⟨i0, hi0, hz0, hz1, hz2⟩ := info_parts info_int
  have c2 : w.cell? ⟨S, 2, none⟩ = some (.pointer (some ⟨U, 0, none⟩)) := h.hS.cell rfl
  obtain ⟨st', est⟩ : ∃ st', st' = ({ st with n := st.n + 1, vals := st.vals ++ [0] } : US) := ⟨_, rfl⟩
  obtain ⟨n, en⟩ : ∃ n, n = st.n := ⟨_, rfl⟩
  rw [← est, ← en] at hg
  rw [← est, ← en]
  rw [← en] at hn
  have HG := Lib.hid hg
  have HH := Lib.hid h
  have HO := Lib.hid hO
  have HNN := Lib.hid hN
  have HAD := Lib.hid had
  have HEN := Lib.hid en
  have HEST := Lib.hid est
  clear h huN hO had hN en est hg
  go_enter Try.func10, Try.ntmps10
  go_wp2_with (first
    | (go_at_call 18; ((with_reducible refine hi.mono ?_); rintro e w' ⟨rfl, rfl⟩))
    | (go_at_call 26
       refine HG.out.mono ?_
       rintro e w1 ⟨rfl, hu1, f1⟩
       have S1 := HH.out.keep f1 (fun b hb e => e (.inr hb))
       obtain ⟨cph, hph⟩ := S1.hph
       obtain ⟨aop, capp, ep⟩ := owns_form hph
       rw [← HEN.out] at ep
       have s4 : w1.cell? ⟨S, 4, none⟩ = some (.slice aop (n + 1) capp) := by rw [← ep]; exact S1.hS.cell rfl
       have hown0 := (Fr.alloc w1 (.cells #[.int .i64 0] 3)).owns hph (fun _ _ e => e)
       rw [← HEN.out, ep] at hown0
       have HEP := Lib.hid ep
       have HPH := Lib.hid hph
       have HS1 := Lib.hid S1
       have HU1 := Lib.hid hu1
       have F1 := Lib.hid f1
       clear S1 hph ep hu1 f1)
    | (at_builtin; go_loud (refine wpList_append_own_at _ rfl (.tmp 23) (.tmp 24) 22 rfl 0 3 i0 (.int .i64 0) 1 8 und_ints hi0 hz0 hz1 hz2 rfl (by decide) (.slice aop (n + 1) capp) (n + 1) cph rfl hown0 ⟨w1.heap.size, 0, none⟩ 1 1 [.int .i64 0] rfl rfl (cell_one_new _ _ _) (by simp [Value.oneCell']) (by unfold maxLen; omega) (by omega) (Nat.zero_le _) ?_)
       intro v' w3 hown1 hg1 hnil1 hat1
       obtain ⟨g', cap', rfl⟩ := owns_shape hown1 (by omega)
       rw [← HEP.out] at hg1 hat1
       obtain ⟨B3, B4, B5, B6, B7⟩ := field_app (f := 4) HS1.out.hS (by rw [HEN.out]; exact HPH.out) (by decide) hg1 hown1 hat1
       have d1 : w3.cell? ⟨S, 4, none⟩ = some (.slice aop (n + 1) capp) := by rw [← HEP.out]; exact B3.cell rfl
       have d2 := B3.free 4
       have HB4 := Lib.hid B4
       have HB5 := Lib.hid B5
       have HB6 := Lib.hid B6
       have HB7 := Lib.hid B7
       clear B3 B4 B5 B6 B7 hown1 hg1 hat1 hnil1)
    | fail)
  obtain ⟨wx, ex⟩ : ∃ wx, wx = w3.setCell ⟨S, 4, none⟩ (.slice (some ⟨g', 0, none⟩) (n + 1 + 1) cap') := ⟨_, rfl⟩
  rw [← ex] at HB4 HB5 HB6 ⊢
  have hf1 := F1.out.size
  have hf6 := HB6.out.size
  have hn7 : ∀ b, (Value.slice (some ⟨g', 0, none⟩) (n + 1 + 1) cap').ownBlock = some b → ph.ownBlock = some b ∨ w1.heap.size ≤ b := HB7.out
  have hS1 := HS1.out
  obtain ⟨cst, hst⟩ := hS1.hst
  obtain ⟨cpl, hpl⟩ := hS1.hpl
  obtain ⟨cph2, hph2⟩ := hS1.hph
  have hst' : st'.cls.length = st.cls.length := by rw [HEST.out]
  have hn' : st'.n = n + 1 := by rw [HEST.out, HEN.out]
  have hstx := HB6.out.owns hst (fun g e => by
    rintro (e' | e')
    · exact row_ne hst hS1.hS (by decide) (by rw [← e']; exact e)
    · exact rows_apart hst hph2 (by decide) e e')
  have hplx := HB6.out.owns hpl (fun g e => by
    rintro (e' | e')
    · exact row_ne hpl hS1.hS (by decide) (by rw [← e']; exact e)
    · exact hS1.hd g e' e)
  have hU2 := (HU1.out.mono (M := fun b => (N b ∨ Own4 S ph sts pl b) ∨ w1.heap.size ≤ b) (fun b hb e => e.elim id (fun e => absurd hb (by omega)))).stay HB6.out (fun b hb hn e => hn (.inl (.inr (e.elim .inl (fun e => .inr (.inl e))))))
  have hOwn : ∀ b, Own4 S (.slice (some ⟨g', 0, none⟩) (n + 1 + 1) cap') sts pl b → Own4 S ph sts pl b ∨ w1.heap.size ≤ b := by
    rintro b (e | e | e | e)
    · exact .inl (.inl e)
    · rcases hn7 b e with k | k
      · exact .inl (.inr (.inl k))
      · exact .inr k
    · exact .inl (.inr (.inr (.inl e)))
    · exact .inl (.inr (.inr (.inr e)))
  have hS : SolverN N wx S U st' := by
    refine ⟨hp, .slice (some ⟨g', 0, none⟩) (n + 1 + 1) cap', sts, pl, mp, ad, ⟨HB4.out, hS1.hp', by rw [hn']; exact HB5.out, ⟨cst, by rw [hst']; exact hstx⟩, ⟨cpl, by rw [hst']; exact hplx⟩, ?_⟩, hU2.mono (fun b hb e => ?_), fun b hb => ?_, by rw [hst']; exact HAD.out⟩
    · intro g e e'
      rcases hn7 g e with k | k
      · exact hS1.hd g k e'
      · have := (owns_lt hpl e').2; omega
    · rcases e with e | e
      · exact .inl (.inl e)
      · rcases hOwn b e with e | e
        · exact .inl (.inr e)
        · exact .inr e
    · rcases hOwn b hb with e | e
      · exact HO.out b e
      · exact fun k => by have := HNN.out b k; omega
  have FF := Lib.hid ((F1.out.mono (fun b _ e k => e (.inl k))).then HB6.out (fun b hb e => HO.out b (e.elim .inl (fun e => .inr (.inl e)))))
  have hf := sfill_ok (fun b hb => by have := HNN.out b hb; omega) hS
  clear hS hU2 hplx hstx hpl hst hph2 hS1
  refine hf.mono ?_
  rintro e w' ⟨rfl, hS', f'⟩
  have HS' := Lib.hid hS'
  have HF' := Lib.hid f'
  clear hS' f' hf
  go_wp2_with fail
  go_ret2
  exact ⟨rfl, HS'.out, FF.out.then HF'.out (fun _ _ e => e)⟩
end Go.Proofs.Ytgdnehejeoiicaa
