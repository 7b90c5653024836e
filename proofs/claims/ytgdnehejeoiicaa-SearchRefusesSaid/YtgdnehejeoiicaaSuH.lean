/- The solver in memory; what only reads it. -/
import Derived.Test.YtgdnehejeoiicaaSuG
set_option linter.unusedVariables false
set_option linter.unusedSimpArgs false
namespace Go.Proofs.Ytgdnehejeoiicaa
open Go.RowKit

/-- The blocks that the solver itself owns, beside its store. -/
def Own4 (S : Nat) (ph sts pl : Value) (b : Nat) : Prop := b = S ∨ ph.ownBlock = some b ∨ sts.ownBlock = some b ∨ pl.ownBlock = some b

structure SolverAt (w : World) (S U : Nat) (hp ph sts pl mp : Value) (ad : Nat) (st : US) : Prop where
  hS : Blk w S [.bool true, .nilIface, .pointer (some ⟨U, 0, none⟩), hp, ph, sts, pl, mp, .int .i64 ad, .int .i64 0, .int .i64 0] 62
  hp' : ∃ H, hp = .pointer H
  hph : ∃ c, w.ownsRow 0 3 1 ph (st.n + 1) c
  hst : ∃ c, w.ownsRow 0 70 4 sts st.cls.length c
  hpl : ∃ c, w.ownsRow 0 3 1 pl st.cls.length c
  hd : ∀ g, ph.ownBlock = some g → pl.ownBlock ≠ some g

def SolverN (N : Nat → Prop) (w : World) (S U : Nat) (st : US) : Prop :=
  ∃ hp ph sts pl mp ad, SolverAt w S U hp ph sts pl mp ad st ∧ StoreN (fun b => N b ∨ Own4 S ph sts pl b) w U st ∧ (∀ b, Own4 S ph sts pl b → ¬ N b) ∧ ad ≤ st.cls.length

theorem SolverAt.own_lt {w : World} {S U : Nat} {hp ph sts pl mp : Value} {ad : Nat} {st : US} (h : SolverAt w S U hp ph sts pl mp ad st) {b : Nat} (hb : Own4 S ph sts pl b) : b < w.heap.size := by
  rcases hb with rfl | e | e | e
  · exact h.hS.lt
  · obtain ⟨c, hc⟩ := h.hph; exact (owns_lt hc e).2
  · obtain ⟨c, hc⟩ := h.hst; exact (owns_lt hc e).2
  · obtain ⟨c, hc⟩ := h.hpl; exact (owns_lt hc e).2
theorem SolverAt.keep {T : Nat → Prop} {w w' : World} {S U : Nat} {hp ph sts pl mp : Value} {ad : Nat} {st : US} (h : SolverAt w S U hp ph sts pl mp ad st) (k : Fr T w w') (hT : ∀ b, Own4 S ph sts pl b → ¬ T b) : SolverAt w' S U hp ph sts pl mp ad st where
  hS := h.hS.keep k (hT _ (.inl rfl))
  hp' := h.hp'
  hph := h.hph.elim fun c hc => ⟨c, k.owns hc (fun g e => hT _ (.inr (.inl e)))⟩
  hst := h.hst.elim fun c hc => ⟨c, k.owns hc (fun g e => hT _ (.inr (.inr (.inl e))))⟩
  hpl := h.hpl.elim fun c hc => ⟨c, k.owns hc (fun g e => hT _ (.inr (.inr (.inr e))))⟩
  hd := h.hd
theorem SolverN.stay {N T : Nat → Prop} {w w' : World} {S U : Nat} {st : US} (h : SolverN N w S U st) (k : Fr T w w') (hT : ∀ b, b < w.heap.size → ¬ N b → ¬ T b) : SolverN N w' S U st := by
  obtain ⟨hp, ph, sts, pl, mp, ad, h1, h2, h3, h4⟩ := h
  exact ⟨hp, ph, sts, pl, mp, ad, h1.keep k (fun b hb => hT b (h1.own_lt hb) (h3 b hb)), h2.stay k (fun b hb hn => hT b hb (fun e => hn (.inl e))), h3, h4⟩

section
variable {w : World} {S U : Nat} {hp ph sts pl mp vs cs ms : Value} {cv : List Value} {ad : Nat} {st : US}

set_option maxHeartbeats 400000 in
theorem sis_ok (h : SolverAt w S U hp ph sts pl mp ad st) : Calls Try.prog 18 #[.pointer (some ⟨S, 0, none⟩)] w fun e w' => e = .returned (.bool true) ∧ w = w' := by
  have c0 : w.cell? ⟨S, 0, none⟩ = some (.bool true) := h.hS.cell rfl
  clear h
  go_enter Try.func18, Try.ntmps18
  go_wp2
  go_ret
  exact ⟨rfl, rfl⟩

set_option maxHeartbeats 400000 in
theorem satoms_ok (h : SolverAt w S U hp ph sts pl mp ad st) (hu : StoreAt w U vs cs ms cv st) : Calls Try.prog 7 #[.pointer (some ⟨S, 0, none⟩)] w fun e w' => e = .returned (.int .i64 (st.n : Int)) ∧ w = w' := by
  have hi := sis_ok h
  have ha := uatoms_ok hu
  have c2 : w.cell? ⟨S, 2, none⟩ = some (.pointer (some ⟨U, 0, none⟩)) := h.hS.cell rfl
  obtain ⟨n, en⟩ : ∃ n, n = st.n := ⟨_, rfl⟩
  rw [← en] at ha ⊢
  clear h hu en
  go_enter Try.func7, Try.ntmps7
  go_wp2_with (first | (go_at_call 18; ((with_reducible refine hi.mono ?_); rintro e w' ⟨rfl, rfl⟩)) | (go_at_call 19; ((with_reducible refine ha.mono ?_); rintro e w' ⟨rfl, rfl⟩)))
  go_ret
  exact ⟨rfl, rfl⟩

set_option maxHeartbeats 800000 in
theorem sliteral_ok (h : SolverAt w S U hp ph sts pl mp ad st) (hu : StoreAt w U vs cs ms cv st) (l : Int) : Calls Try.prog 22 #[.pointer (some ⟨S, 0, none⟩), .int .i64 l] w fun e w' => e = .returned (.bool (isLit st.n l)) ∧ w = w' := by
  have ha := satoms_ok h hu
  have hn := hu.hn
  obtain ⟨n, en⟩ : ∃ n, n = st.n := ⟨_, rfl⟩
  rw [← en] at ha hn ⊢
  clear h hu en
  obtain ⟨r, er⟩ : ∃ r, r = isLit n l := ⟨_, rfl⟩
  rw [← er]
  by_cases h0 : l = 0
  · have b0 : (l != 0) = false := by simp [h0]
    have e1 : r = false := by rw [er]; simp [isLit, h0]
    rw [e1]
    clear h0 er e1
    go_enter Try.func22, Try.ntmps22
    go_wp2_with (go_at_call 7; ((with_reducible refine ha.mono ?_); rintro e w' ⟨rfl, rfl⟩))
    go_ret
    exact ⟨rfl, rfl⟩
  · have b0 : (l != 0) = true := by simp [h0]
    by_cases h1 : l ≤ (n : Int)
    · have b1 : decide (l ≤ (n : Int)) = true := by simpa using h1
      by_cases h2 : -(n : Int) ≤ l
      · have b2 : decide (-(n : Int) ≤ l) = true := by simpa using h2
        have e1 : r = true := by rw [er]; simp [isLit, h0, h1, h2]
        rw [e1]
        clear h0 h1 h2 er e1
        go_enter Try.func22, Try.ntmps22
        go_wp2_with (go_at_call 7; ((with_reducible refine ha.mono ?_); rintro e w' ⟨rfl, rfl⟩))
        go_ret
        exact ⟨rfl, rfl⟩
      · have b2 : decide (-(n : Int) ≤ l) = false := by simpa using h2
        have e1 : r = false := by rw [er]; simp [isLit, b2]
        rw [e1]
        clear h0 h1 h2 er e1
        go_enter Try.func22, Try.ntmps22
        go_wp2_with (go_at_call 7; ((with_reducible refine ha.mono ?_); rintro e w' ⟨rfl, rfl⟩))
        go_ret
        exact ⟨rfl, rfl⟩
    · have b1 : decide (l ≤ (n : Int)) = false := by simpa using h1
      have e1 : r = false := by rw [er]; simp [isLit, b1]
      rw [e1]
      clear h0 h1 er e1
      go_enter Try.func22, Try.ntmps22
      go_wp2_with (go_at_call 7; ((with_reducible refine ha.mono ?_); rintro e w' ⟨rfl, rfl⟩))
      go_ret
      exact ⟨rfl, rfl⟩

set_option maxHeartbeats 400000 in
theorem sbad_ok (h : SolverAt w S U hp ph sts pl mp ad st) (hu : StoreAt w U vs cs ms cv st) {b : Nat} (hb : w.cell? ⟨b, 0, none⟩ = some (.pointer (some ⟨S, 0, none⟩))) (l : Int) :
    Calls Try.prog 21 #[.int .i64 l, .pointer (some ⟨b, 0, none⟩)] w fun e w' => e = .returned (.bool (!isLit st.n l)) ∧ w = w' := by
  have hi := sliteral_ok h hu l
  clear h hu
  go_enter Try.func21, Try.ntmps21
  go_wp2_with (go_at_call 22; ((with_reducible refine hi.mono ?_); rintro e w' ⟨rfl, rfl⟩))
  go_ret
  exact ⟨rfl, rfl⟩
end
end Go.Proofs.Ytgdnehejeoiicaa
