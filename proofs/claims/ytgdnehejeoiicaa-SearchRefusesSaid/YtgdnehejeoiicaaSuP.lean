/- SearchRefuses answers true. -/
import Derived.Test.YtgdnehejeoiicaaSuO
set_option linter.unusedVariables false
set_option linter.unusedSimpArgs false
namespace Go.Proofs.Ytgdnehejeoiicaa
open Go.RowKit

theorem SolverN.mono {N M : Nat → Prop} {w : World} {S U : Nat} {st : US} (h : SolverN N w S U st) (hM : ∀ b, b < w.heap.size → M b → N b) : SolverN M w S U st := by
  obtain ⟨hp, ph, sts, pl, mp, ad, h1, h2, h3, h4⟩ := h
  exact ⟨hp, ph, sts, pl, mp, ad, h1, h2.mono (fun b hb e => e.elim (fun e => .inl (hM b hb e)) .inr), fun b hb e => h3 b hb (hM b (h1.own_lt hb) e), h4⟩
theorem satoms_n {N : Nat → Prop} {w : World} {S U : Nat} {st : US} (h : SolverN N w S U st) : Calls Try.prog 7 #[.pointer (some ⟨S, 0, none⟩)] w fun e w' => e = .returned (.int .i64 (st.n : Int)) ∧ w = w' := by
  obtain ⟨hp, ph, sts, pl, mp, ad, h1, ⟨vs, cs, ms, cv, h2, _⟩, _⟩ := h
  exact satoms_ok h1 h2
def AddPost (N : Nat → Prop) (w : World) (S U n k : Nat) (f : Int) (e : Ending) (w' : World) : Prop := e = .returned (.int .i64 f) ∧ (∃ st', SolverN N w' S U st' ∧ st'.n = n ∧ st'.cls.length ≤ k + 1) ∧ Fr (fun b => ¬ N b) w w'
theorem sadd_any {N : Nat → Prop} {w : World} {S U : Nat} {c : Value} {st : US} {xs : List Int} (hN : ∀ b, N b → b < w.heap.size) (h : SolverN N w S U st) (hr : RdC w c xs) (hcN : ∀ a n k, c = .slice (some a) n k → 0 < n → N a.block) (hk : st.cls.length < 1048576) :
    Calls Try.prog 8 #[.pointer (some ⟨S, 0, none⟩), c] w (AddPost N w S U st.n st.cls.length (if bads st.n xs then 180 else 0)) := by
  by_cases hb : bads st.n xs = true
  · rw [if_pos hb]
    refine (sadd_bad h hr hb).mono ?_
    rintro e w' ⟨rfl, f⟩
    exact ⟨rfl, ⟨st, h.stay f (fun _ _ _ e => e), rfl, by omega⟩, f.mono (fun _ _ e => e.elim)⟩
  · rw [if_neg hb]
    have hb' : bads st.n xs = false := by simpa using hb
    refine (sadd_ok hN h hr hcN hb' hk).mono ?_
    rintro e w' ⟨rfl, h', f⟩
    exact ⟨rfl, ⟨_, h', rfl, by simp⟩, f⟩
theorem rdC_lit (w : World) (x : Int) : RdC (w.alloc (.cells #[.int .i64 x] 3)) (.slice (some ⟨w.heap.size, 0, none⟩) 1 1) [x] := by
  refine ⟨_, 1, rfl, by simp, (fun e => by cases e), fun a ha => ?_⟩
  cases ha
  refine ⟨fun _ => rfl, fun j hj => ?_⟩
  have e : j = 0 := by simp at hj; omega
  subst e
  exact (Blk.new' (w := w) (cs := #[.int .i64 x]) (T := 3) rfl).cell rfl

set_option maxHeartbeats 3200000 in
set_option maxRecDepth 20000 in
theorem walk_refuses (n : Int) (w : World) (c : Value) (xs : List Int) (hc : RdC w c xs) (hcb : ∀ a m k, c = .slice (some a) m k → 0 < m → a.block < w.heap.size) :
    Calls Try.prog 3 #[.int .i64 n, c] w fun e w' => e = .returned (.bool true) ∧ Below w.heap.size w w' := by
  by_cases hn : 0 ≤ n ∧ n ≤ 262144
  · obtain ⟨m, rfl⟩ : ∃ m : Nat, n = m := ⟨n.toNat, by omega⟩
    have hm : m ≤ 262144 := by omega
    have hl : ∀ w, Calls Try.prog 6 #[.int .i64 m, .slice none 0 0, .slice none 0 0] w fun e w' => e = .returned (.int .i64 0) ∧ w = w' := fun w => by
      have := rload_ok w m
      rwa [if_neg (by omega), if_neg (by omega)] at this
    have hnew := snew_ok m hm w
    obtain ⟨aoc, capc, ec⟩ : ∃ ao cap, c = .slice ao xs.length cap := by obtain ⟨ao, cap, e, _⟩ := hc; exact ⟨ao, cap, e⟩
    subst ec
    have HC := Lib.hid hc
    have HCB := Lib.hid hcb
    clear hn hc hcb
    go_enter Try.func3, Try.ntmps3
    go_wp2_with fail
    refine hnew.mono ?_
    rintro e w1 ⟨S, U, rfl, h1, f1⟩
    have H1 := Lib.hid h1
    have F1 := Lib.hid f1
    have HC1 := Lib.hid (HC.out.keep f1 (fun _ _ _ _ _ e => e))
    clear h1 f1 hnew
    go_wp2_with fail
    refine (hl w1).mono ?_
    rintro e w' ⟨rfl, rfl⟩
    clear hl
    go_wp2_with fail
    refine (satoms_n H1.out).mono ?_
    rintro e w' ⟨rfl, rfl⟩
    have e0 : (((newU m).n : Int) != (m : Int)) = false := by simp [newU]
    go_wp2_with fail
    have hs1 := F1.out.size
    have hadd := sadd_any (fun b hb => by omega) H1.out HC1.out (fun a m k e h0 => HCB.out a m k e h0) (by simp [newU])
    have en : (newU m).n = m := rfl
    have ek : (newU m).cls.length = 0 := rfl
    rw [en, ek] at hadd
    refine hadd.mono ?_
    rintro e w2 ⟨rfl, ⟨st2, h2, n2, k2⟩, f2⟩
    have H2 := Lib.hid h2
    have F2 := Lib.hid f2
    have HC2 := Lib.hid (HC1.out.keep f2 (fun a m k e h0 k' => k' (HCB.out a m k e h0)))
    clear h2 f2 hadd
    obtain ⟨bb, eb⟩ : ∃ bb, bb = bads m xs := ⟨_, rfl⟩
    have hcl := rclause_ok HC2.out m (by omega)
    rw [← eb] at hcl
    rw [← eb]
    clear eb en ek e0
    cases bb
    · simp only [Bool.not_false, Bool.false_eq_true, if_false] at hcl ⊢
      go_wp2_with fail
      refine hcl.mono ?_
      rintro e w' ⟨rfl, rfl⟩
      go_wp2_with fail
      by_cases hfull : m = 262144
      · have bF : ((m : Int) == 262144) = true := by rw [hfull]; rfl
        have bA : ((st2.n : Int) == (m : Int)) = true := by rw [n2]; simp
        refine (sgrow_full H2.out (by rw [n2]; exact hfull)).mono ?_
        rintro e w' ⟨rfl, rfl⟩
        clear hfull
        go_wp2_with fail
        refine (satoms_n H2.out).mono ?_
        rintro e w' ⟨rfl, rfl⟩
        go_wp2_with fail
        go_ret
        exact ⟨rfl, (F1.out.below (Nat.le_refl _) (fun _ e => e.elim)).trans (F2.out.below hs1 (fun b e => Nat.le_of_not_lt e))⟩
      · have bF : ((m : Int) == 262144) = false := by simp; omega
        have hs2 := F2.out.size
        have hg := sgrow_ok (fun b hb => by omega) H2.out (by rw [n2]; omega)
        obtain ⟨st3, e3⟩ : ∃ st3, st3 = ({ st2 with n := st2.n + 1, vals := st2.vals ++ [0] } : US) := ⟨_, rfl⟩
        rw [← e3] at hg
        have n3 : st3.n = m + 1 := by rw [e3, ← n2]
        have k3 : st3.cls.length ≤ 1 := by rw [e3]; exact k2
        have eg : ((st2.n + 1 : Nat) : Int) = (m : Int) + 1 := by rw [n2]; omega
        rw [eg] at hg
        clear e3 hfull eg
        refine hg.mono ?_
        rintro e w3 ⟨rfl, h3, f3⟩
        have H3 := Lib.hid h3
        have F3 := Lib.hid f3
        have hs3 := f3.size
        have bA : ((st3.n : Int) == (m : Int) + 1) = true := by rw [n3]; simp
        have bK : (((m : Int) + 1) == (m : Int) + 1) = true := by simp
        clear h3 f3 hg
        go_wp2_with fail
        refine (satoms_n H3.out).mono ?_
        rintro e w' ⟨rfl, rfl⟩
        obtain ⟨w4, e4⟩ : ∃ w4, w4 = w3.alloc (.cells #[.int .i64 ((m : Int) + 1)] 3) := ⟨_, rfl⟩
        have e4' := e4.symm
        have HE4 := Lib.hid e4
        clear e4
        go_wp2_with fail
        have e4 := HE4.out
        have sz4 : w4.heap.size = w3.heap.size + 1 := by rw [e4]; simp
        have h4 : SolverN (fun b => b < w.heap.size ∨ b = w3.heap.size) w4 S U st3 := by
          rw [e4]
          exact (H3.out.mono (M := fun b => b < w.heap.size ∨ b = w3.heap.size) (fun b hb e => by omega)).stay (Fr.alloc w3 _) (fun _ _ _ e => e)
        have r4 : RdC w4 (.slice (some ⟨w3.heap.size, 0, none⟩) 1 1) [(m : Int) + 1] := by rw [e4]; exact rdC_lit w3 _
        have f4 : Fr (fun _ => False) w3 w4 := by rw [e4]; exact Fr.alloc _ _
        have F4 := Lib.hid f4
        have ha4 := sadd_any (fun b hb => by omega) h4 r4 (fun a m k e _ => by cases e; exact .inr rfl) (by omega)
        have bd4 : bads st3.n [(m : Int) + 1] = false := by rw [n3]; simp [bads, isLit]; omega
        rw [bd4] at ha4
        simp only [Bool.false_eq_true, if_false] at ha4
        clear h4 r4 e4 e4' f4 bd4
        refine ha4.mono ?_
        rintro e w5 ⟨rfl, ⟨st5, h5, n5, k5⟩, f5⟩
        have H5 := Lib.hid h5
        have F5 := Lib.hid f5
        have hs5 := f5.size
        clear h5 f5 ha4
        obtain ⟨w6, e6⟩ : ∃ w6, w6 = w5.alloc (.cells #[.int .i64 ((m : Int) + 1 + 1)] 3) := ⟨_, rfl⟩
        have e6' := e6.symm
        have HE6 := Lib.hid e6
        clear e6
        go_wp2_with fail
        have e6 := HE6.out
        have sz6 : w6.heap.size = w5.heap.size + 1 := by rw [e6]; simp
        have h6 : SolverN (fun b => b < w.heap.size ∨ b = w5.heap.size) w6 S U st5 := by
          rw [e6]
          exact (H5.out.mono (M := fun b => b < w.heap.size ∨ b = w5.heap.size) (fun b hb e => by omega)).stay (Fr.alloc w5 _) (fun _ _ _ e => e)
        have r6 : RdC w6 (.slice (some ⟨w5.heap.size, 0, none⟩) 1 1) [(m : Int) + 1 + 1] := by rw [e6]; exact rdC_lit w5 _
        have f6 : Fr (fun _ => False) w5 w6 := by rw [e6]; exact Fr.alloc _ _
        have F6 := Lib.hid f6
        have ha6 := sadd_any (fun b hb => by omega) h6 r6 (fun a m k e _ => by cases e; exact .inr rfl) (by omega)
        have bd6 : bads st5.n [(m : Int) + 1 + 1] = true := by rw [n5, n3]; simp [bads, isLit]; omega
        rw [bd6] at ha6
        simp only [if_true] at ha6
        clear h6 r6 e6 e6' f6 bd6
        refine ha6.mono ?_
        rintro e w7 ⟨rfl, _, f7⟩
        have F7 := Lib.hid f7
        clear f7 ha6
        go_wp2_with fail
        go_ret
        have q1 := (F1.out.below (Nat.le_refl _) (fun _ e => e.elim)).trans (F2.out.below hs1 (fun b e => Nat.le_of_not_lt e))
        have q2 := (q1.trans (F3.out.below (by omega) (fun b e => Nat.le_of_not_lt e))).trans (F4.out.below (by omega) (fun _ e => e.elim))
        have q3 := (q2.trans (F5.out.below (by omega) (fun b e => Nat.le_of_not_lt (fun h => e (.inl h))))).trans (F6.out.below (by omega) (fun _ e => e.elim))
        exact ⟨rfl, q3.trans (F7.out.below (by omega) (fun b e => Nat.le_of_not_lt (fun h => e (.inl h))))⟩
    · simp only [Bool.not_true, if_true] at hcl ⊢
      go_wp2_with fail
      refine hcl.mono ?_
      rintro e w' ⟨rfl, rfl⟩
      go_wp2_with fail
      by_cases hfull : m = 262144
      · have bF : ((m : Int) == 262144) = true := by rw [hfull]; rfl
        have bA : ((st2.n : Int) == (m : Int)) = true := by rw [n2]; simp
        refine (sgrow_full H2.out (by rw [n2]; exact hfull)).mono ?_
        rintro e w' ⟨rfl, rfl⟩
        clear hfull
        go_wp2_with fail
        refine (satoms_n H2.out).mono ?_
        rintro e w' ⟨rfl, rfl⟩
        go_wp2_with fail
        go_ret
        exact ⟨rfl, (F1.out.below (Nat.le_refl _) (fun _ e => e.elim)).trans (F2.out.below hs1 (fun b e => Nat.le_of_not_lt e))⟩
      · have bF : ((m : Int) == 262144) = false := by simp; omega
        have hs2 := F2.out.size
        have hg := sgrow_ok (fun b hb => by omega) H2.out (by rw [n2]; omega)
        obtain ⟨st3, e3⟩ : ∃ st3, st3 = ({ st2 with n := st2.n + 1, vals := st2.vals ++ [0] } : US) := ⟨_, rfl⟩
        rw [← e3] at hg
        have n3 : st3.n = m + 1 := by rw [e3, ← n2]
        have k3 : st3.cls.length ≤ 1 := by rw [e3]; exact k2
        have eg : ((st2.n + 1 : Nat) : Int) = (m : Int) + 1 := by rw [n2]; omega
        rw [eg] at hg
        clear e3 hfull eg
        refine hg.mono ?_
        rintro e w3 ⟨rfl, h3, f3⟩
        have H3 := Lib.hid h3
        have F3 := Lib.hid f3
        have hs3 := f3.size
        have bA : ((st3.n : Int) == (m : Int) + 1) = true := by rw [n3]; simp
        have bK : (((m : Int) + 1) == (m : Int) + 1) = true := by simp
        clear h3 f3 hg
        go_wp2_with fail
        refine (satoms_n H3.out).mono ?_
        rintro e w' ⟨rfl, rfl⟩
        obtain ⟨w4, e4⟩ : ∃ w4, w4 = w3.alloc (.cells #[.int .i64 ((m : Int) + 1)] 3) := ⟨_, rfl⟩
        have e4' := e4.symm
        have HE4 := Lib.hid e4
        clear e4
        go_wp2_with fail
        have e4 := HE4.out
        have sz4 : w4.heap.size = w3.heap.size + 1 := by rw [e4]; simp
        have h4 : SolverN (fun b => b < w.heap.size ∨ b = w3.heap.size) w4 S U st3 := by
          rw [e4]
          exact (H3.out.mono (M := fun b => b < w.heap.size ∨ b = w3.heap.size) (fun b hb e => by omega)).stay (Fr.alloc w3 _) (fun _ _ _ e => e)
        have r4 : RdC w4 (.slice (some ⟨w3.heap.size, 0, none⟩) 1 1) [(m : Int) + 1] := by rw [e4]; exact rdC_lit w3 _
        have f4 : Fr (fun _ => False) w3 w4 := by rw [e4]; exact Fr.alloc _ _
        have F4 := Lib.hid f4
        have ha4 := sadd_any (fun b hb => by omega) h4 r4 (fun a m k e _ => by cases e; exact .inr rfl) (by omega)
        have bd4 : bads st3.n [(m : Int) + 1] = false := by rw [n3]; simp [bads, isLit]; omega
        rw [bd4] at ha4
        simp only [Bool.false_eq_true, if_false] at ha4
        clear h4 r4 e4 e4' f4 bd4
        refine ha4.mono ?_
        rintro e w5 ⟨rfl, ⟨st5, h5, n5, k5⟩, f5⟩
        have H5 := Lib.hid h5
        have F5 := Lib.hid f5
        have hs5 := f5.size
        clear h5 f5 ha4
        obtain ⟨w6, e6⟩ : ∃ w6, w6 = w5.alloc (.cells #[.int .i64 ((m : Int) + 1 + 1)] 3) := ⟨_, rfl⟩
        have e6' := e6.symm
        have HE6 := Lib.hid e6
        clear e6
        go_wp2_with fail
        have e6 := HE6.out
        have sz6 : w6.heap.size = w5.heap.size + 1 := by rw [e6]; simp
        have h6 : SolverN (fun b => b < w.heap.size ∨ b = w5.heap.size) w6 S U st5 := by
          rw [e6]
          exact (H5.out.mono (M := fun b => b < w.heap.size ∨ b = w5.heap.size) (fun b hb e => by omega)).stay (Fr.alloc w5 _) (fun _ _ _ e => e)
        have r6 : RdC w6 (.slice (some ⟨w5.heap.size, 0, none⟩) 1 1) [(m : Int) + 1 + 1] := by rw [e6]; exact rdC_lit w5 _
        have f6 : Fr (fun _ => False) w5 w6 := by rw [e6]; exact Fr.alloc _ _
        have F6 := Lib.hid f6
        have ha6 := sadd_any (fun b hb => by omega) h6 r6 (fun a m k e _ => by cases e; exact .inr rfl) (by omega)
        have bd6 : bads st5.n [(m : Int) + 1 + 1] = true := by rw [n5, n3]; simp [bads, isLit]; omega
        rw [bd6] at ha6
        simp only [if_true] at ha6
        clear h6 r6 e6 e6' f6 bd6
        refine ha6.mono ?_
        rintro e w7 ⟨rfl, _, f7⟩
        have F7 := Lib.hid f7
        clear f7 ha6
        go_wp2_with fail
        go_ret
        have q1 := (F1.out.below (Nat.le_refl _) (fun _ e => e.elim)).trans (F2.out.below hs1 (fun b e => Nat.le_of_not_lt e))
        have q2 := (q1.trans (F3.out.below (by omega) (fun b e => Nat.le_of_not_lt e))).trans (F4.out.below (by omega) (fun _ e => e.elim))
        have q3 := (q2.trans (F5.out.below (by omega) (fun b e => Nat.le_of_not_lt (fun h => e (.inl h))))).trans (F6.out.below (by omega) (fun _ e => e.elim))
        exact ⟨rfl, q3.trans (F7.out.below (by omega) (fun b e => Nat.le_of_not_lt (fun h => e (.inl h))))⟩
  · have hnew := snew_no n w (by omega)
    have hl := rload_ok w n
    obtain ⟨z, ez⟩ : ∃ z : Int, z = if n < 0 then 1 else 2 := ⟨_, rfl⟩
    have e2 : (if n < 0 then 1 else if 262144 < n then 2 else 0 : Int) = z := by
      rw [ez]
      split
      · rfl
      · rw [if_pos (by omega)]
    rw [e2] at hl
    rw [← ez] at hnew
    have b1 : (z != z) = false := by simp
    have b2 : (z == 0) = false := by rw [ez]; split <;> rfl
    have b3 : (z != 0) = true := by rw [ez]; split <;> rfl
    clear ez e2 hn hc hcb
    go_enter Try.func3, Try.ntmps3
    go_wp2_with fail
    refine hnew.mono ?_
    rintro e w1 ⟨rfl, rfl⟩
    go_wp2_with fail
    refine hl.mono ?_
    rintro e w1 ⟨rfl, rfl⟩
    go_wp2_with fail
    go_ret
    exact ⟨rfl, Below.refl _ _⟩
end Go.Proofs.Ytgdnehejeoiicaa
