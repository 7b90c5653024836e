/- The reference's Load of nothing, Lit and Clause. -/
import Derived.Test.YtgdnehejeoiicaaSuN
set_option linter.unusedVariables false
set_option linter.unusedSimpArgs false
namespace Go.Proofs.Ytgdnehejeoiicaa
open Go.RowKit

set_option maxHeartbeats 400000 in
theorem rmay_ok (w : World) (n : Int) : Calls Try.prog 16 #[.int .i64 n, .slice none 0 0, .slice none 0 0] w fun e w' => e = .returned (.bool true) ∧ w = w' := by
  go_enter Try.func16, Try.ntmps16
  go_wp2
  go_loopw [7] (fun i_ wr => i_ = .int .i64 0 ∧ Hid (w = wr)) (fun i_ _ => 0)
  case atStart => exact ⟨rfl, rfl⟩
  case round =>
    obtain ⟨rfl, HW⟩ := hrel
    obtain rfl := HW.out
    go_wp2
    go_ret
    exact ⟨rfl, rfl⟩

set_option maxHeartbeats 800000 in
theorem rload_ok (w : World) (n : Int) : Calls Try.prog 6 #[.int .i64 n, .slice none 0 0, .slice none 0 0] w fun e w' => e = .returned (.int .i64 (if n < 0 then 1 else if 262144 < n then 2 else 0)) ∧ w = w' := by
  by_cases h0 : n < 0
  · rw [if_pos h0]
    have g1 : decide (n < 0) = true := by simpa using h0
    go_enter Try.func6, Try.ntmps6
    go_wp2
    go_ret
    exact ⟨rfl, rfl⟩
  · rw [if_neg h0]
    have g1 : decide (n < 0) = false := by simpa using h0
    by_cases h1 : 262144 < n
    · rw [if_pos h1]
      have g2 : decide (262144 < n) = true := by simpa using h1
      clear h0
      go_enter Try.func6, Try.ntmps6
      go_wp2
      go_ret
      exact ⟨rfl, rfl⟩
    · rw [if_neg h1]
      have g2 : decide (262144 < n) = false := by simpa using h1
      have hm := rmay_ok w n
      clear h0 h1
      go_enter Try.func6, Try.ntmps6
      go_wp2
      go_loopw [7] (fun i_ wr => i_ = .int .i64 0 ∧ Hid (w = wr)) (fun i_ _ => 0)
      case atStart => exact ⟨rfl, rfl⟩
      case round =>
        obtain ⟨rfl, HW⟩ := hrel
        obtain rfl := HW.out
        go_wp2_with (go_at_call 16; ((with_reducible refine hm.mono ?_); rintro e w' ⟨rfl, rfl⟩))
        go_ret
        exact ⟨rfl, rfl⟩

set_option maxHeartbeats 800000 in
theorem rlit_ok (w : World) (n : Nat) (hn : n ≤ 1048576) (l : Int) : Calls Try.prog 25 #[.int .i64 l, .int .i64 n] w fun e w' => e = .returned (.bool (isLit n l)) ∧ w = w' := by
  obtain ⟨r, er⟩ : ∃ r, r = isLit n l := ⟨_, rfl⟩
  rw [← er]
  by_cases h0 : l = 0
  · have b0 : (l != 0) = false := by simp [h0]
    have e1 : r = false := by rw [er]; simp [isLit, h0]
    rw [e1]
    clear h0 er e1
    go_enter Try.func25, Try.ntmps25
    go_wp2
    go_ret
    exact ⟨rfl, rfl⟩
  · have b0 : (l != 0) = true := by simp [h0]
    by_cases h2 : -(n : Int) ≤ l
    · have b2 : decide (-(n : Int) ≤ l) = true := by simpa using h2
      have b2' : decide (0 - (n : Int) ≤ l) = true := by simp; omega
      by_cases h1 : l ≤ (n : Int)
      · have b1 : decide (l ≤ (n : Int)) = true := by simpa using h1
        have e1 : r = true := by rw [er]; simp [isLit, h0, h1, h2]
        rw [e1]
        clear h0 h1 h2 er e1
        go_enter Try.func25, Try.ntmps25
        go_wp2
        go_ret
        exact ⟨rfl, rfl⟩
      · have b1 : decide (l ≤ (n : Int)) = false := by simpa using h1
        have e1 : r = false := by rw [er]; simp [isLit, b1]
        rw [e1]
        clear h0 h1 h2 er e1
        go_enter Try.func25, Try.ntmps25
        go_wp2
        go_ret
        exact ⟨rfl, rfl⟩
    · have b2 : decide (-(n : Int) ≤ l) = false := by simpa using h2
      have b2' : decide (0 - (n : Int) ≤ l) = false := by simp; omega
      have e1 : r = false := by rw [er]; simp [isLit, b2]
      rw [e1]
      clear h0 h2 er e1
      go_enter Try.func25, Try.ntmps25
      go_wp2
      go_ret
      exact ⟨rfl, rfl⟩

theorem bads_not (n : Nat) (xs : List Int) {x : Int} (hx : x ∈ xs) (h : isLit n x = false) : (!bads n xs) = false := by
  have : bads n xs = true := List.any_eq_true.2 ⟨x, hx, by simp [h]⟩
  rw [this]; rfl

set_option maxHeartbeats 800000 in
theorem rclause_ok {w : World} {v : Value} {xs : List Int} (h : RdC w v xs) (m : Nat) (hm : m ≤ 1048576) : Calls Try.prog 9 #[v, .int .i64 m] w fun e w' => e = .returned (.bool (!bads m xs)) ∧ w = w' := by
  obtain ⟨ao, cap, rfl, hb, h0, hc⟩ := h
  obtain ⟨n, en⟩ : ∃ n, n = xs.length := ⟨_, rfl⟩
  rw [← en] at hb hc h0 ⊢
  have HEN := Lib.hid en
  have HC := Lib.hid hc
  have H0 := Lib.hid h0
  clear hc h0 en
  go_enter Try.func9, Try.ntmps9
  go_wp2
  go_loopw [5] (fun i_ wr => ∃ k : Nat, i_ = .int .i64 k ∧ k ≤ n ∧ Hid (∀ x ∈ xs.take k, isLit m x = true) ∧ Hid (w = wr)) (fun i_ _ => n - (intOf i_).toNat)
  case atStart => exact ⟨0, rfl, Nat.zero_le _, (fun x hx => by simp at hx), rfl⟩
  case round =>
    obtain ⟨k, rfl, hk, HN, HW⟩ := hrel
    obtain rfl := HW.out
    by_cases hlt : k < n
    · obtain ⟨g, off, rfl, hcell⟩ : ∃ g off, ao = some ⟨g, off, none⟩ ∧ ∀ j, j < n → w.cell? ⟨g, off + j, none⟩ = some (.int .i64 (xs.getD j 0)) := by
        cases ao with
        | none => have := (H0.out rfl).1; omega
        | some a =>
          obtain ⟨hs, hcell⟩ := HC.out a rfl
          obtain ⟨g, off, spot⟩ := a
          have hs' := hs (by have := HEN.out; omega)
          simp only at hs' hcell
          subst hs'
          exact ⟨g, off, rfl, hcell⟩
      have c0 := hcell k hlt
      obtain ⟨x, hx⟩ : ∃ x, x = xs.getD k 0 := ⟨_, rfl⟩
      rw [← hx] at c0
      have hkx : k < xs.length := by have := HEN.out; omega
      have htk : xs.take (k + 1) = xs.take k ++ [x] := by rw [hx, getD_lt _ _ hkx, List.take_append_getElem]
      have hmem : x ∈ xs := by rw [hx, getD_lt _ _ hkx]; exact List.getElem_mem hkx
      have b1 : (k : Int) < (n : Int) := by omega
      have b2 : (0 : Int) ≤ (k : Int) := by omega
      have hf := rlit_ok w m hm x
      have HTK := Lib.hid htk
      have HMEM := Lib.hid hmem
      clear hcell hx hkx htk hmem
      by_cases hbx : isLit m x = true
      · rw [hbx] at hf
        have HBX := Lib.hid hbx
        clear hbx
        go_wp2_with (go_at_call 25; ((with_reducible refine hf.mono ?_); rintro e w' ⟨rfl, rfl⟩))
        go_roundw
        case rel =>
          refine ⟨k + 1, (by go_num), by omega, fun y hy => ?_, True.intro⟩
          rw [HTK.out] at hy
          rcases List.mem_append.1 hy with hy | hy
          · exact HN.out y hy
          · simp at hy; rw [hy]; exact HBX.out
        case measure => simp [intOf]; omega
      · have hbx' : isLit m x = false := by simpa using hbx
        rw [hbx'] at hf
        have HBX := Lib.hid hbx'
        clear hbx hbx'
        go_wp2_with (go_at_call 25; ((with_reducible refine hf.mono ?_); rintro e w' ⟨rfl, rfl⟩))
        go_ret
        exact ⟨by rw [bads_not m xs HMEM.out HBX.out]; rfl, rfl⟩
    · have b1 : ¬ (k : Int) < (n : Int) := by omega
      have ekn : k = n := by omega
      have HK := Lib.hid ekn
      clear ekn
      go_wp2
      go_ret
      refine ⟨?_, rfl⟩
      have hn := HN.out
      rw [HK.out, HEN.out, List.take_length] at hn
      have : bads m xs = false := by
        unfold bads
        rw [List.any_eq_false]
        intro y hy
        simp [hn y hy]
      rw [this]; rfl
end Go.Proofs.Ytgdnehejeoiicaa
