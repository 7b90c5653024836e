/- HeapConsts answers true. -/
import Derived.Test.YtldgeclcbikmbaaHeapY
set_option linter.unusedVariables false
set_option linter.unusedSimpArgs false
namespace Go.Proofs.Ytldgeclcbikmbaa
open Go.RowKit
attribute [local go_sem] run_store_float

theorem info_bool : (Try.prog.info? 4).map (fun i => (i.zero, i.size, i.bytes)) = some (some (.bool false), 1, 1) := by kernel_rfl
theorem und_bools : Try.prog.underlying 28 = some (.slice 4) := by kernel_rfl
theorem mk_bools (n : Nat) (hn : n ≤ 1048576) (w : World) : Sem.run Try.prog (Instr.makeSlice 28 (Value.int .i64 n) (Value.int .i64 n)) w = .ok (.slice (some ⟨w.heap.size, 0, none⟩) n n) (w.alloc (.cells (Array.replicate n (.bool false)) 4)) := by
  obtain ⟨i0, hi, hz0, hz1, hz2⟩ := info_parts info_bool
  have h := run_make (P := Try.prog) w 28 4 i0 (.bool false) und_bools hi hz0 .i64 .i64 n n (by omega) (by omega) (by rw [hz2]; omega) (by omega)
  rw [h, hz1]
  simp only [Value.cells, madeCells_one, Int.toNat_natCast, Nat.mul_one]

set_option maxHeartbeats 1600000 in
theorem refnew_yes (n : Nat) (hn : n ≤ 1048576) (w : World) : Calls Try.prog 9 #[.int .i64 n] w fun e w' => ∃ a b, e = .returned (.tuple #[.agg #[.slice (some ⟨a, 0, none⟩) n n, .slice (some ⟨b, 0, none⟩) n n, .float .f64 4607182418800017408], .int .i64 0]) ∧ Fr (fun _ => False) w w' := by
  have mk1 := mk_bools n hn
  have mk2 := mk_f64s n hn
  have g1 : ¬ (n : Int) < 0 := by omega
  have g2 : ¬ (1048576 : Int) < (n : Int) := by omega
  have g3 : decide ((1048576 : Int) < (n : Int)) = false := by simp; omega
  go_enter Try.func9, Try.ntmps9
  go_wp2
  all_goals go_region
  all_goals go_wp2
  all_goals (try simp only [Exit.inBlock, Exit.then])
  all_goals first
    | (refine bodyPost_ret (v := .tuple #[.agg #[.slice (some ⟨w.heap.size + 1, 0, none⟩) n n, .slice (some ⟨w.heap.size + 1 + 1, 0, none⟩) n n, .float .f64 4607182418800017408], .int .i64 0]) ?_ rfl ⟨_, _, rfl, ?_⟩; focus (rw [results_cell_tmp rfl]; go_simp; done))
    | (refine bodyPost_ret (v := .tuple #[.agg #[.slice (some ⟨w.heap.size + 1 + 1, 0, none⟩) n n, .slice (some ⟨w.heap.size + 1, 0, none⟩) n n, .float .f64 4607182418800017408], .int .i64 0]) ?_ rfl ⟨_, _, rfl, ?_⟩; focus (rw [results_cell_tmp rfl]; go_simp; done))
  all_goals exact (((Fr.alloc w _).then (Fr.alloc _ _) (fun _ _ e => e)).then (Fr.alloc _ _) (fun _ _ e => e)).then (Fr.drew _) (fun _ _ e => e)

set_option maxHeartbeats 400000 in
theorem refnew_no (n : Int) (w : World) (hn : n < 0 ∨ 1048576 < n) : Calls Try.prog 9 #[.int .i64 n] w fun e w' => e = .returned (.tuple #[.agg #[.slice none 0 0, .slice none 0 0, .float .f64 0], .int .i64 (if n < 0 then 1 else 2)]) ∧ Fr (fun _ => False) w w' := by
  by_cases h0 : n < 0
  · rw [if_pos h0]
    have g1 : decide (n < 0) = true := by simpa using h0
    clear hn
    go_enter Try.func9, Try.ntmps9
    go_wp2
    (try simp only [Exit.inBlock, Exit.then])
    exact bodyPost_ret (v := .tuple #[.agg #[.slice none 0 0, .slice none 0 0, .float .f64 0], .int .i64 1]) (by rw [results_cell_tmp rfl]; go_simp) rfl ⟨rfl, Fr.alloc _ _⟩
  · rw [if_neg h0]
    have g1 : decide (n < 0) = false := by simpa using h0
    have g2 : (1048576 : Int) < n := by omega
    clear hn
    go_enter Try.func9, Try.ntmps9
    go_wp2
    (try simp only [Exit.inBlock, Exit.then])
    exact bodyPost_ret (v := .tuple #[.agg #[.slice none 0 0, .slice none 0 0, .float .f64 0], .int .i64 2]) (by rw [results_cell_tmp rfl]; go_simp) rfl ⟨rfl, Fr.alloc _ _⟩

theorem newS_len (n : Nat) : (newS n).fs.length = n := by simp [newS]

set_option maxHeartbeats 1600000 in
theorem walk_consts (a0 : Int) (w : World) : Calls Try.prog 3 #[.int .i64 a0] w fun e w' => e = .returned (.bool true) ∧ Below w.heap.size w w' := by
  have hl := lives_ok w
  by_cases h0 : 0 ≤ a0 ∧ a0 ≤ 1048576
  · obtain ⟨n, rfl⟩ : ∃ n : Nat, a0 = n := ⟨a0.toNat, by omega⟩
    have hn : n ≤ 1048576 := by omega
    clear h0
    go_enter Try.func3, Try.ntmps3
    go_wp2_with (go_at_call 7; ((with_reducible refine hl.mono ?_); rintro e w1 ⟨rfl, k1⟩))
    refine (new_ok n w1 hn).mono ?_
    rintro e w2 ⟨H, rfl, h2, k2⟩
    go_wp2_with fail
    refine (refnew_yes n hn w2).mono ?_
    rintro e w3 ⟨a, b, rfl, k3⟩
    have b1 : (((n : Nat) : Int) != ((newS n).fs.length : Int)) = false := by rw [newS_len]; simp
    have b2 : (((newS n).fs.length : Int) == ((n : Nat) : Int)) = true := by rw [newS_len]; simp
    have b3 : (((newS n).l.length : Int) == 0) = true := by simp [newS]
    generalize newS n = s at h2 b1 b2 b3
    have hb : Below w.heap.size w w3 := (k1.trans (k2.below (by have := k1.size; omega) (fun _ e => e.elim))).trans (k3.below (by have := k1.size; have := k2.size; omega) (fun _ e => e.elim))
    have HB := Lib.hid hb
    have h3 := h2.stay k3 (fun _ _ e => e)
    clear k1 k2 k3 h2 hb hl
    go_wp2_with fail
    have h4 := h3.stay (Fr.alloc w3 (Obj.cells #[.slice (some ⟨a, 0, none⟩) n n, .slice (some ⟨b, 0, none⟩) n n, .float .f64 4607182418800017408] 31)) (fun _ _ e => e)
    refine (size_ok h4).mono ?_
    rintro e w' ⟨rfl, rfl⟩
    go_wp2_with fail
    refine (len_ok h4).mono ?_
    rintro e w' ⟨rfl, rfl⟩
    go_wp2_with fail
    go_ret
    exact ⟨rfl, HB.out.alloc (by exact HB.out.size) _⟩
  · have hn := new_no a0
    have hr := refnew_no a0
    have h1 : a0 < 0 ∨ 1048576 < a0 := by omega
    obtain ⟨c, ec⟩ : ∃ c : Int, c = if a0 < 0 then 1 else 2 := ⟨_, rfl⟩
    have b1 : (c != c) = false := by simp
    have b2 : (c == 0) = false := by rw [ec]; split <;> rfl
    have b3 : (c != 0) = true := by rw [ec]; split <;> rfl
    simp only [← ec] at hn hr
    clear ec h0
    go_enter Try.func3, Try.ntmps3
    go_wp2_with (go_at_call 7; ((with_reducible refine hl.mono ?_); rintro e w1 ⟨rfl, k1⟩))
    refine (hn w1 h1).mono ?_
    rintro e w2 ⟨rfl, rfl⟩
    go_wp2_with fail
    refine (hr w1 h1).mono ?_
    rintro e w3 ⟨rfl, k3⟩
    have hb : Below w.heap.size w w3 := k1.trans (k3.below (by have := k1.size; omega) (fun _ e => e.elim))
    have HB := Lib.hid hb
    clear k1 k3 hb hn hr h1 hl
    go_wp2_with fail
    go_ret
    exact ⟨rfl, HB.out.alloc (by exact HB.out.size) _⟩
end Go.Proofs.Ytldgeclcbikmbaa
