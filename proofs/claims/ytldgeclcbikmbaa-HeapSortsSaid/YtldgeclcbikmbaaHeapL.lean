/- New and the plain questions. -/
import Derived.Test.YtldgeclcbikmbaaHeapK
set_option linter.unusedVariables false
set_option linter.unusedSimpArgs false
namespace Go.Proofs.Ytldgeclcbikmbaa
open Go.RowKit
attribute [local go_sem] run_store_float

set_option maxHeartbeats 400000 in
theorem new_yes (n : Nat) (w : World) (hn : n ≤ 1048576) : Calls Try.prog 8 #[.int .i64 n] w fun e w' => ∃ H V bs bp, e = .returned (.tuple #[.pointer (some ⟨H, 0, none⟩), .int .i64 0]) ∧ HeapAt w' H V bs bp (.slice none 0 0) (newS n) ∧ Fr (fun _ => False) w w' ∧ (w.heap.size ≤ H ∧ w.heap.size ≤ V ∧ w.heap.size ≤ bs ∧ w.heap.size ≤ bp) := by
  have hm := made_heap n w hn
  have g1 : ¬ (n : Int) < 0 := by omega
  have g2 : ¬ (1048576 : Int) < (n : Int) := by omega
  have g3 : decide ((1048576 : Int) < (n : Int)) = false := by simp; omega
  obtain ⟨R, hR⟩ : ∃ R : Nat → Nat → Nat → Nat → World → Prop, R = fun H V bs bp w' => HeapAt w' H V bs bp (.slice none 0 0) (newS n) ∧ Fr (fun _ => False) w w' ∧ (w.heap.size ≤ H ∧ w.heap.size ≤ V ∧ w.heap.size ≤ bs ∧ w.heap.size ≤ bp) := ⟨_, rfl⟩
  suffices h : Calls Try.prog 8 #[.int .i64 n] w (fun e w' => Hid (∃ H V bs bp, e = .returned (.tuple #[.pointer (some ⟨H, 0, none⟩), .int .i64 0]) ∧ R H V bs bp w')) by
    refine h.mono ?_
    rintro e w' h
    obtain ⟨H, V, bs, bp, h1, h2⟩ := h.out
    rw [hR] at h2
    exact ⟨H, V, bs, bp, h1, h2⟩
  have HR := Lib.hid hR
  clear hR
  go_enter Try.func8, Try.ntmps8
  go_wp2_with (go_at_call 22; ((with_reducible refine hm.mono ?_); rintro e w' ⟨H, V, bs, bp, rfl, h1, h2, h3⟩))
  go_ret2
  exact ⟨H, V, bs, bp, rfl, by rw [HR.out]; exact ⟨h1, h2, h3⟩⟩

set_option maxHeartbeats 400000 in
theorem new_no (n : Int) (w : World) (hn : n < 0 ∨ 1048576 < n) : Calls Try.prog 8 #[.int .i64 n] w fun e w' => e = .returned (.tuple #[.pointer none, .int .i64 (if n < 0 then 1 else 2)]) ∧ w = w' := by
  by_cases h0 : n < 0
  · rw [if_pos h0]
    have g1 : decide (n < 0) = true := by simpa using h0
    clear hn
    go_enter Try.func8, Try.ntmps8
    go_wp2
    go_ret2
    exact ⟨rfl, rfl⟩
  · rw [if_neg h0]
    have g1 : decide (n < 0) = false := by simpa using h0
    have g2 : (1048576 : Int) < n := by omega
    clear hn
    go_enter Try.func8, Try.ntmps8
    go_wp2
    go_ret2
    exact ⟨rfl, rfl⟩

section
variable {w : World} {H V bs bp : Nat} {lv : Value} {s : HS}

theorem bump_no (h : HeapAt w H V bs bp lv s) {v : Int} (hv : ¬ isIn s v) :
    Calls Try.prog 21 #[.pointer (some ⟨H, 0, none⟩), .int .i64 v] w fun e w' => e = .returned (.int .i64 61) ∧ w = w' := by
  have hi := is_no h (v := v) (by unfold isIn at hv; omega)
  clear h hv
  go_enter Try.func21, Try.ntmps21
  go_wp2_with (go_at_call 29; ((with_reducible refine hi.mono ?_); rintro e w' ⟨rfl, rfl⟩))
  go_ret
  exact ⟨rfl, rfl⟩

theorem len_heap (h : HeapAt w H V bs bp lv s) :
    Calls Try.prog 11 #[.pointer (some ⟨H, 0, none⟩)] w fun e w' => e = .returned (.int .i64 (s.l.length : Int)) ∧ w = w' := by
  obtain ⟨ao, cap, ef⟩ := h.form
  have c0 : w.cell? ⟨H, 0, none⟩ = some (.slice ao s.l.length cap) := by rw [← ef]; exact h.hH.cell rfl
  clear h ef
  go_enter Try.func11, Try.ntmps11
  go_wp2
  go_ret
  exact ⟨rfl, rfl⟩

theorem size_heap (h : HeapAt w H V bs bp lv s) :
    Calls Try.prog 10 #[.pointer (some ⟨H, 0, none⟩)] w fun e w' => e = .returned (.int .i64 (s.fs.length : Int)) ∧ w = w' := by
  have c3 : w.cell? ⟨H, 3, none⟩ = some (.slice (some ⟨bs, 0, none⟩) s.fs.length s.fs.length) := h.hH.cell rfl
  clear h
  go_enter Try.func10, Try.ntmps10
  go_wp2
  go_ret
  exact ⟨rfl, rfl⟩

theorem step_heap (h : HeapAt w H V bs bp lv s) :
    Calls Try.prog 16 #[.pointer (some ⟨H, 0, none⟩)] w fun e w' => e = .returned (.float .f64 s.step) ∧ w = w' := by
  have c5 : w.cell? ⟨H, 5, none⟩ = some (.float .f64 s.step) := h.hH.cell rfl
  clear h
  go_enter Try.func16, Try.ntmps16
  go_wp2
  go_ret
  exact ⟨rfl, rfl⟩

theorem score_heap (h : HeapAt w H V bs bp lv s) {a : Nat} (ha : a < s.fs.length) :
    Calls Try.prog 15 #[.pointer (some ⟨H, 0, none⟩), .int .i64 a] w fun e w' => e = .returned (.tuple #[.float .f64 (s.fs.getD a 0), .int .i64 0]) ∧ w = w' := by
  have hi := is_yes h ha
  have c3 : w.cell? ⟨H, 3, none⟩ = some (.slice (some ⟨bs, 0, none⟩) s.fs.length s.fs.length) := h.hH.cell rfl
  have ca := h.hs.cell (fvl_get _ ha)
  obtain ⟨x, ex⟩ : ∃ x, x = s.fs.getD a 0 := ⟨_, rfl⟩
  rw [← ex] at ca ⊢
  have g1 : (0 : Int) ≤ (a : Int) := by omega
  have g2 : (a : Int) < (s.fs.length : Int) := by omega
  clear h ex
  go_enter Try.func15, Try.ntmps15
  go_wp2_with (go_at_call 29; ((with_reducible refine hi.mono ?_); rintro e w' ⟨rfl, rfl⟩))
  go_ret2
  exact ⟨rfl, rfl⟩

theorem top_heap (h : HeapAt w H V bs bp lv s) (h0 : 0 < s.l.length) :
    Calls Try.prog 17 #[.pointer (some ⟨H, 0, none⟩)] w fun e w' => e = .returned (.tuple #[.int .i64 (s.l.getD 0 0 : Nat), .int .i64 0]) ∧ w = w' := by
  have hl := len_heap h
  obtain ⟨g, cap, more, e, hb, hc, -⟩ := h.row h0
  have c0 : w.cell? ⟨H, 0, none⟩ = some (.slice (some ⟨g, 0, none⟩) s.l.length cap) := h.hH.cell (by rw [e]; rfl)
  have c1 := hb.cell (nvl_get _ more h0)
  obtain ⟨x, ex⟩ : ∃ x, x = s.l.getD 0 0 := ⟨_, rfl⟩
  rw [← ex] at c1 ⊢
  obtain ⟨L, eL⟩ : ∃ L, L = s.l.length := ⟨_, rfl⟩
  rw [← eL] at hl c0 h0
  have g1 : ((L : Int) == 0) = false := by simp; omega
  have g2 : ¬ (L : Int) = 0 := by omega
  have g3 : (0 : Int) < (L : Int) := by omega
  clear h ex e hb eL
  go_enter Try.func17, Try.ntmps17
  go_wp2_with (go_at_call 11; ((with_reducible refine hl.mono ?_); rintro e w' ⟨rfl, rfl⟩))
  go_ret2
  exact ⟨rfl, rfl⟩

theorem pop_heap (h : HeapAt w H V bs bp lv s) (h0 : 0 < s.l.length) :
    Calls Try.prog 18 #[.pointer (some ⟨H, 0, none⟩)] w fun e w' => e = .returned (.tuple #[.int .i64 (s.l.getD 0 0 : Nat), .int .i64 0]) ∧
      ∃ lv', HeapAt w' H V bs bp lv' (popS s) ∧ Fr (fun b => lv.ownBlock = some b ∨ b = bp ∨ b = H) w w' ∧ lv'.ownBlock = lv.ownBlock := by
  have hl := len_heap h
  have hq := qpop_heap h h0
  obtain ⟨x, ex⟩ : ∃ x, x = s.l.getD 0 0 := ⟨_, rfl⟩
  rw [← ex] at hq ⊢
  obtain ⟨L, eL⟩ : ∃ L, L = s.l.length := ⟨_, rfl⟩
  rw [← eL] at hl h0
  have g1 : ((L : Int) == 0) = false := by simp; omega
  have g2 : ¬ (L : Int) = 0 := by omega
  clear h ex eL
  go_enter Try.func18, Try.ntmps18
  go_wp2_with (first
    | (go_at_call 11; ((with_reducible refine hl.mono ?_); rintro e w' ⟨rfl, rfl⟩))
    | (go_at_call 30; ((with_reducible refine hq.mono ?_); rintro e w' ⟨rfl, hq'⟩)))
  go_ret2
  exact ⟨rfl, hq'⟩

theorem pop_none (h : HeapAt w H V bs bp lv s) (h0 : s.l.length = 0) :
    Calls Try.prog 18 #[.pointer (some ⟨H, 0, none⟩)] w fun e w' => e = .returned (.tuple #[.int .i64 0, .int .i64 190]) ∧ w = w' := by
  have hl := len_heap h
  rw [h0] at hl
  have hl' : Calls Try.prog 11 #[.pointer (some ⟨H, 0, none⟩)] w fun e w' => e = .returned (.int .i64 0) ∧ w = w' := hl
  clear h hl h0
  go_enter Try.func18, Try.ntmps18
  go_wp2_with (go_at_call 11; ((with_reducible refine hl'.mono ?_); rintro e w' ⟨rfl, rfl⟩))
  go_ret2
  exact ⟨rfl, rfl⟩
end
end Go.Proofs.Ytldgeclcbikmbaa
