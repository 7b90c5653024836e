/- Does a clause hold a number that is no literal? (slices.IndexFunc, slices.ContainsFunc with the program's two closures) -/
import Derived.Test.YtgdnehejeoiicaaSuB
set_option linter.unusedVariables false
set_option linter.unusedSimpArgs false
namespace Go.Proofs.Ytgdnehejeoiicaa
open Go.RowKit

set_option maxHeartbeats 800000 in
theorem index_u {w : World} {v : Value} {xs : List Int} (h : RdC w v xs) {b : Nat} {bad : Int → Bool} (hcall : ∀ l, Calls Try.prog 47 #[.int .i64 l, .pointer (some ⟨b, 0, none⟩)] w fun e w' => e = .returned (.bool (bad l)) ∧ w = w') :
    Calls Try.prog 46 #[v, .func (Fn.func 47) #[] #[.pointer (some ⟨b, 0, none⟩)]] w fun e w' => (∃ r : Int, e = .returned (.int .i64 r) ∧ decide (0 ≤ r) = xs.any bad) ∧ w = w' := by
  obtain ⟨ao, cap, rfl, hb, h0, hc⟩ := h
  obtain ⟨n, en⟩ : ∃ n, n = xs.length := ⟨_, rfl⟩
  rw [← en] at hb hc h0 ⊢
  have HEN := Lib.hid en
  have HC := Lib.hid hc
  have H0 := Lib.hid h0
  have HB := Lib.hid hcall
  clear hc h0 hcall en
  go_enter Try.func46, Try.ntmps46
  go_wp2
  go_loopw [5, 8] (fun j_ i_ wr => ∃ k : Nat, i_ = .int .i64 k ∧ k ≤ n ∧ Hid (∀ x ∈ xs.take k, bad x = false) ∧ Hid (w = wr)) (fun _ i_ _ => n - (intOf i_).toNat)
  case atStart => exact ⟨0, rfl, Nat.zero_le _, (fun x hx => by simp at hx), rfl⟩
  case round =>
    obtain ⟨k, rfl, hk, HN, HW⟩ := hrel
    obtain rfl := HW.out
    by_cases hlt : k < n
    · obtain ⟨g, off, rfl, hcell⟩ : ∃ g off, ao = some ⟨g, off, none⟩ ∧ ∀ j, j < n → w.cell? ⟨g, off + j, none⟩ = some (.int .i64 (xs.getD j 0)) := by
        cases ao with
        | none => have := (H0.out rfl).1; omega
        | some a =>
          obtain ⟨hs, hcell⟩ := HC.out a rfl
          obtain ⟨g, off, spot⟩ := a
          have hs' := hs (by have := HEN.out; omega)
          simp only at hs' hcell
          subst hs'
          exact ⟨g, off, rfl, hcell⟩
      have c0 := hcell k hlt
      obtain ⟨x, hx⟩ : ∃ x, x = xs.getD k 0 := ⟨_, rfl⟩
      rw [← hx] at c0
      have hkx : k < xs.length := by have := HEN.out; omega
      have htk : xs.take (k + 1) = xs.take k ++ [x] := by rw [hx, getD_lt _ _ hkx, List.take_append_getElem]
      have hmem : x ∈ xs := by rw [hx, getD_lt _ _ hkx]; exact List.getElem_mem hkx
      have b1 : (k : Int) < (n : Int) := by omega
      have b2 : (0 : Int) ≤ (k : Int) := by omega
      have hf := HB.out x
      have HTK := Lib.hid htk
      have HMEM := Lib.hid hmem
      clear hcell hx hkx htk hmem
      by_cases hbx : bad x = true
      · rw [hbx] at hf
        have HBX := Lib.hid hbx
        clear hbx
        go_wp2_with (go_at_call 47; ((with_reducible refine hf.mono ?_); rintro e w' ⟨rfl, rfl⟩))
        go_ret
        refine ⟨⟨k, rfl, ?_⟩, rfl⟩
        have : xs.any bad = true := List.any_eq_true.2 ⟨x, HMEM.out, HBX.out⟩
        rw [this]; simp
      · have hbx' : bad x = false := by simpa using hbx
        rw [hbx'] at hf
        have HBX := Lib.hid hbx'
        clear hbx hbx'
        go_wp2_with (go_at_call 47; ((with_reducible refine hf.mono ?_); rintro e w' ⟨rfl, rfl⟩))
        go_roundw
        case rel =>
          refine ⟨k + 1, (by go_num), by omega, fun y hy => ?_, True.intro⟩
          rw [HTK.out] at hy
          rcases List.mem_append.1 hy with hy | hy
          · exact HN.out y hy
          · simp at hy; rw [hy]; exact HBX.out
        case measure => simp [intOf]; omega
    · have b1 : ¬ (k : Int) < (n : Int) := by omega
      have ekn : k = n := by omega
      have HK := Lib.hid ekn
      clear ekn
      go_wp2
      go_ret
      refine ⟨⟨-1, rfl, ?_⟩, rfl⟩
      have hn := HN.out
      rw [HK.out, HEN.out, List.take_length] at hn
      have : xs.any bad = false := by
        rw [List.any_eq_false]
        intro y hy
        simp [hn y hy]
      rw [this]; rfl

set_option maxHeartbeats 400000 in
theorem contains_u {w : World} {v : Value} {xs : List Int} (h : RdC w v xs) {b : Nat} {bad : Int → Bool} (hcall : ∀ l, Calls Try.prog 47 #[.int .i64 l, .pointer (some ⟨b, 0, none⟩)] w fun e w' => e = .returned (.bool (bad l)) ∧ w = w') :
    Calls Try.prog 20 #[v, .func (Fn.func 47) #[] #[.pointer (some ⟨b, 0, none⟩)]] w fun e w' => e = .returned (.bool (xs.any bad)) ∧ w = w' := by
  have hi := index_u h hcall
  clear h hcall
  obtain ⟨r, er⟩ : ∃ r, r = xs.any bad := ⟨_, rfl⟩
  rw [← er] at hi ⊢
  go_enter Try.func20, Try.ntmps20
  go_wp2_with (go_at_call 46; ((with_reducible refine hi.mono ?_); rintro e w' ⟨⟨i, rfl, hi2⟩, rfl⟩))
  go_ret
  exact ⟨by first | (rw [er]; done) | simpa using hi2 | simp [er], rfl⟩

set_option maxHeartbeats 800000 in
theorem index_s {w : World} {v : Value} {xs : List Int} (h : RdC w v xs) {b : Nat} {bad : Int → Bool} (hcall : ∀ l, Calls Try.prog 21 #[.int .i64 l, .pointer (some ⟨b, 0, none⟩)] w fun e w' => e = .returned (.bool (bad l)) ∧ w = w') :
    Calls Try.prog 46 #[v, .func (Fn.func 21) #[] #[.pointer (some ⟨b, 0, none⟩)]] w fun e w' => (∃ r : Int, e = .returned (.int .i64 r) ∧ decide (0 ≤ r) = xs.any bad) ∧ w = w' := by
  obtain ⟨ao, cap, rfl, hb, h0, hc⟩ := h
  obtain ⟨n, en⟩ : ∃ n, n = xs.length := ⟨_, rfl⟩
  rw [← en] at hb hc h0 ⊢
  have HEN := Lib.hid en
  have HC := Lib.hid hc
  have H0 := Lib.hid h0
  have HB := Lib.hid hcall
  clear hc h0 hcall en
  go_enter Try.func46, Try.ntmps46
  go_wp2
  go_loopw [5, 8] (fun j_ i_ wr => ∃ k : Nat, i_ = .int .i64 k ∧ k ≤ n ∧ Hid (∀ x ∈ xs.take k, bad x = false) ∧ Hid (w = wr)) (fun _ i_ _ => n - (intOf i_).toNat)
  case atStart => exact ⟨0, rfl, Nat.zero_le _, (fun x hx => by simp at hx), rfl⟩
  case round =>
    obtain ⟨k, rfl, hk, HN, HW⟩ := hrel
    obtain rfl := HW.out
    by_cases hlt : k < n
    · obtain ⟨g, off, rfl, hcell⟩ : ∃ g off, ao = some ⟨g, off, none⟩ ∧ ∀ j, j < n → w.cell? ⟨g, off + j, none⟩ = some (.int .i64 (xs.getD j 0)) := by
        cases ao with
        | none => have := (H0.out rfl).1; omega
        | some a =>
          obtain ⟨hs, hcell⟩ := HC.out a rfl
          obtain ⟨g, off, spot⟩ := a
          have hs' := hs (by have := HEN.out; omega)
          simp only at hs' hcell
          subst hs'
          exact ⟨g, off, rfl, hcell⟩
      have c0 := hcell k hlt
      obtain ⟨x, hx⟩ : ∃ x, x = xs.getD k 0 := ⟨_, rfl⟩
      rw [← hx] at c0
      have hkx : k < xs.length := by have := HEN.out; omega
      have htk : xs.take (k + 1) = xs.take k ++ [x] := by rw [hx, getD_lt _ _ hkx, List.take_append_getElem]
      have hmem : x ∈ xs := by rw [hx, getD_lt _ _ hkx]; exact List.getElem_mem hkx
      have b1 : (k : Int) < (n : Int) := by omega
      have b2 : (0 : Int) ≤ (k : Int) := by omega
      have hf := HB.out x
      have HTK := Lib.hid htk
      have HMEM := Lib.hid hmem
      clear hcell hx hkx htk hmem
      by_cases hbx : bad x = true
      · rw [hbx] at hf
        have HBX := Lib.hid hbx
        clear hbx
        go_wp2_with (go_at_call 21; ((with_reducible refine hf.mono ?_); rintro e w' ⟨rfl, rfl⟩))
        go_ret
        refine ⟨⟨k, rfl, ?_⟩, rfl⟩
        have : xs.any bad = true := List.any_eq_true.2 ⟨x, HMEM.out, HBX.out⟩
        rw [this]; simp
      · have hbx' : bad x = false := by simpa using hbx
        rw [hbx'] at hf
        have HBX := Lib.hid hbx'
        clear hbx hbx'
        go_wp2_with (go_at_call 21; ((with_reducible refine hf.mono ?_); rintro e w' ⟨rfl, rfl⟩))
        go_roundw
        case rel =>
          refine ⟨k + 1, (by go_num), by omega, fun y hy => ?_, True.intro⟩
          rw [HTK.out] at hy
          rcases List.mem_append.1 hy with hy | hy
          · exact HN.out y hy
          · simp at hy; rw [hy]; exact HBX.out
        case measure => simp [intOf]; omega
    · have b1 : ¬ (k : Int) < (n : Int) := by omega
      have ekn : k = n := by omega
      have HK := Lib.hid ekn
      clear ekn
      go_wp2
      go_ret
      refine ⟨⟨-1, rfl, ?_⟩, rfl⟩
      have hn := HN.out
      rw [HK.out, HEN.out, List.take_length] at hn
      have : xs.any bad = false := by
        rw [List.any_eq_false]
        intro y hy
        simp [hn y hy]
      rw [this]; rfl

set_option maxHeartbeats 400000 in
theorem contains_s {w : World} {v : Value} {xs : List Int} (h : RdC w v xs) {b : Nat} {bad : Int → Bool} (hcall : ∀ l, Calls Try.prog 21 #[.int .i64 l, .pointer (some ⟨b, 0, none⟩)] w fun e w' => e = .returned (.bool (bad l)) ∧ w = w') :
    Calls Try.prog 20 #[v, .func (Fn.func 21) #[] #[.pointer (some ⟨b, 0, none⟩)]] w fun e w' => e = .returned (.bool (xs.any bad)) ∧ w = w' := by
  have hi := index_s h hcall
  clear h hcall
  obtain ⟨r, er⟩ : ∃ r, r = xs.any bad := ⟨_, rfl⟩
  rw [← er] at hi ⊢
  go_enter Try.func20, Try.ntmps20
  go_wp2_with (go_at_call 46; ((with_reducible refine hi.mono ?_); rintro e w' ⟨⟨i, rfl, hi2⟩, rfl⟩))
  go_ret
  exact ⟨by first | (rw [er]; done) | simpa using hi2 | simp [er], rfl⟩
end Go.Proofs.Ytgdnehejeoiicaa
