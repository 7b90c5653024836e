/- New and the plain questions. -/
import Derived.Test.YtgdnehejeoiicaaHeapK
set_option linter.unusedVariables false
set_option linter.unusedSimpArgs false
namespace Go.Proofs.Ytgdnehejeoiicaa
open Go.RowKit
attribute [local go_sem] run_store_float

set_option maxHeartbeats 400000 in
theorem new_yes (n : Nat) (w : World) (hn : n ≤ 1048576) : Calls Try.prog 44 #[.int .i64 n] w fun e w' => ∃ H V bs bp, e = .returned (.tuple #[.pointer (some ⟨H, 0, none⟩), .int .i64 0]) ∧ HeapAt w' H V bs bp (.slice none 0 0) (newS n) ∧ Fr (fun _ => False) w w' ∧ (w.heap.size ≤ H ∧ w.heap.size ≤ V ∧ w.heap.size ≤ bs ∧ w.heap.size ≤ bp) := by
  have hm := made_heap n w hn
  have g1 : ¬ (n : Int) < 0 := by omega
  have g2 : ¬ (1048576 : Int) < (n : Int) := by omega
  have g3 : decide ((1048576 : Int) < (n : Int)) = false := by simp; omega
  obtain ⟨R, hR⟩ : ∃ R : Nat → Nat → Nat → Nat → World → Prop, R = fun H V bs bp w' => HeapAt w' H V bs bp (.slice none 0 0) (newS n) ∧ Fr (fun _ => False) w w' ∧ (w.heap.size ≤ H ∧ w.heap.size ≤ V ∧ w.heap.size ≤ bs ∧ w.heap.size ≤ bp) := ⟨_, rfl⟩
  suffices h : Calls Try.prog 44 #[.int .i64 n] w (fun e w' => Hid (∃ H V bs bp, e = .returned (.tuple #[.pointer (some ⟨H, 0, none⟩), .int .i64 0]) ∧ R H V bs bp w')) by
    refine h.mono ?_
    rintro e w' h
    obtain ⟨H, V, bs, bp, h1, h2⟩ := h.out
    rw [hR] at h2
    exact ⟨H, V, bs, bp, h1, h2⟩
  have HR := Lib.hid hR
  clear hR
  go_enter Try.func44, Try.ntmps44
  go_wp2_with (go_at_call 57; ((with_reducible refine hm.mono ?_); rintro e w' ⟨H, V, bs, bp, rfl, h1, h2, h3⟩))
  go_ret2
  exact ⟨H, V, bs, bp, rfl, by rw [HR.out]; exact ⟨h1, h2, h3⟩⟩

set_option maxHeartbeats 400000 in
theorem new_no (n : Int) (w : World) (hn : n < 0 ∨ 1048576 < n) : Calls Try.prog 44 #[.int .i64 n] w fun e w' => e = .returned (.tuple #[.pointer none, .int .i64 (if n < 0 then 1 else 2)]) ∧ w = w' := by
  by_cases h0 : n < 0
  · rw [if_pos h0]
    have g1 : decide (n < 0) = true := by simpa using h0
    clear hn
    go_enter Try.func44, Try.ntmps44
    go_wp2
    go_ret2
    exact ⟨rfl, rfl⟩
  · rw [if_neg h0]
    have g1 : decide (n < 0) = false := by simpa using h0
    have g2 : (1048576 : Int) < n := by omega
    clear hn
    go_enter Try.func44, Try.ntmps44
    go_wp2
    go_ret2
    exact ⟨rfl, rfl⟩

end Go.Proofs.Ytgdnehejeoiicaa
