/- HeapFinite answers true. -/
import Derived.Test.YtldgeclcbikmbaaHPlay
set_option linter.unusedVariables false
set_option linter.unusedSimpArgs false
namespace Go.Proofs.Ytldgeclcbikmbaa
open Go.RowKit Go.Proofs.Ytldgeclcbikmbaa.Flt

theorem below_fr {B : Nat} {w w' : World} (h : Below B w w') : Fr (fun b => B ≤ b) w w' := ⟨h.os, h.tape, h.output, h.size, fun b hb hn => h.block b (by omega)⟩

theorem cmp_pos {x : Nat} (h0 : 0 < x) (hx : x ≤ GREAT) : FloatKind.f64.format.order x 0 = some .gt := by
  have h : FloatKind.f64.format.order x 0 = some (compare x 0) := order_fin (Nat.lt_of_le_of_lt hx (by decide)) (by decide)
  rw [h, Nat.compare_eq_gt.mpr h0]
theorem cmp_zero {x : Nat} (hx : x ≤ GREAT) : FloatKind.f64.format.order x 0 = some .eq ∨ FloatKind.f64.format.order x 0 = some .gt := by
  by_cases h0 : x = 0
  · exact .inl (by rw [h0]; decide)
  · exact .inr (cmp_pos (by omega) hx)
theorem cmp_great {x : Nat} (hx : x ≤ GREAT) : FloatKind.f64.format.order x 6103021453049119613 = some .eq ∨ FloatKind.f64.format.order x 6103021453049119613 = some .lt := by
  have h : FloatKind.f64.format.order x 6103021453049119613 = some (compare x 6103021453049119613) := order_fin (Nat.lt_of_le_of_lt hx (by decide)) (by decide)
  rw [h]
  have hx' : x ≤ 6103021453049119613 := hx
  by_cases h0 : x = 6103021453049119613
  · exact .inl (by rw [h0]; simp)
  · exact .inr (by rw [Nat.compare_eq_lt.mpr (by omega)])

set_option maxHeartbeats 3200000 in
theorem walk_finite (a0 : Int) (w : World) (sv : Value) (m : Nat) (hs : ActsAt w sv m) : Calls Try.prog 5 #[.int .i64 a0, sv] w fun e w' => e = .returned (.bool true) ∧ Below w.heap.size w w' := by
  have hp := play_ok a0 w sv m hs
  obtain ⟨ao, cap, rfl, hm, hc⟩ := hs
  clear hc hm
  go_enter Try.func5, Try.ntmps5
  go_wp2_with fail
  refine hp.mono ?_
  rintro e w1 ⟨kB, ⟨h0, rfl⟩ | ⟨h0, H, s, rfl, h1, hl⟩⟩
  · have K1 := Lib.hid kB
    have g1 : decide (a0 < 0) = true ∨ (decide (a0 < 0) = false ∧ decide (1048576 < a0) = true) := by
      by_cases a0 < 0
      · exact .inl (by simpa)
      · exact .inr ⟨by simp; omega, by simp; omega⟩
    clear kB h0 hp
    rcases g1 with g1 | ⟨g1, g2⟩
    · go_wp2_with fail
      refine (lives_ok w1).mono ?_
      rintro e w2 ⟨rfl, k2⟩
      have K2 := Lib.hid (K1.out.trans (k2.mono K1.out.size))
      go_wp2_with fail
      go_ret
      exact ⟨rfl, K2.out⟩
    · go_wp2_with fail
      refine (lives_ok w1).mono ?_
      rintro e w2 ⟨rfl, k2⟩
      have K2 := Lib.hid (K1.out.trans (k2.mono K1.out.size))
      go_wp2_with fail
      go_ret
      exact ⟨rfl, K2.out⟩
  · have g1 : decide (a0 < 0) = false := by simp; omega
    have g2 : decide (1048576 < a0) = false := by simp; omega
    have K1 := Lib.hid kB
    have H1 := Lib.hid h1
    have HL := Lib.hid hl
    clear kB h0 hp h1 hl
    go_wp2_with fail
    refine (lives_ok w1).mono ?_
    rintro e w2 ⟨rfl, k2⟩
    have K2 := Lib.hid (K1.out.trans (k2.mono K1.out.size))
    have H2 := Lib.hid (H1.out.stay (below_fr k2) (fun b hb => by omega))
    clear k2
    go_wp2_with fail
    go_loopw [6] (fun i_ wr => ∃ k : Nat, i_ = .int .i64 k ∧ k ≤ s.fs.length ∧ Hid (w2 = wr)) (fun i_ _ => s.fs.length - (intOf i_).toNat)
    case atStart => exact ⟨0, rfl, Nat.zero_le _, rfl⟩
    case round =>
      obtain ⟨k, rfl, hk, HW⟩ := hrel
      obtain rfl := HW.out
      have hmx := H2.out.hm
      go_wp2_with fail
      refine (size_ok H2.out).mono ?_
      rintro e w' ⟨rfl, rfl⟩
      by_cases hlt : k < s.fs.length
      · have b1 : (k : Int) < (s.fs.length : Int) := by omega
        go_wp2_with fail
        have hsc := score_ok H2.out hlt
        obtain ⟨x, ex⟩ : ∃ x, x = s.fs.getD k 0 := ⟨_, rfl⟩
        rw [← ex] at hsc
        have hx : x ≤ GREAT := by rw [ex]; exact H2.out.inv.fl.getG hlt
        clear ex
        refine hsc.mono ?_
        rintro e w' ⟨rfl, rfl⟩
        rcases cmp_zero hx with o1 | o1
        · rcases cmp_great hx with o2 | o2
          · go_wp2_with fail
            go_roundw
            case rel => exact ⟨k + 1, (by go_num), by omega, True.intro⟩
            case measure => simp [intOf]; omega
          · go_wp2_with fail
            go_roundw
            case rel => exact ⟨k + 1, (by go_num), by omega, True.intro⟩
            case measure => simp [intOf]; omega
        · rcases cmp_great hx with o2 | o2
          · go_wp2_with fail
            go_roundw
            case rel => exact ⟨k + 1, (by go_num), by omega, True.intro⟩
            case measure => simp [intOf]; omega
          · go_wp2_with fail
            go_roundw
            case rel => exact ⟨k + 1, (by go_num), by omega, True.intro⟩
            case measure => simp [intOf]; omega
      · have b1 : ¬ (k : Int) < (s.fs.length : Int) := by omega
        have hst := step_ok H2.out
        have hx : s.step ≤ GREAT := H2.out.inv.fl.st
        have h0 : 0 < s.step := by have := H2.out.inv.fl.lo; unfold LOW at this; omega
        have o1 := cmp_pos h0 hx
        obtain ⟨x, ex⟩ : ∃ x, x = s.step := ⟨_, rfl⟩
        rw [← ex] at hst hx o1
        have b3 : ((s.fs.length : Int) == a0) = true := by rw [HL.out]; simp
        clear h0 ex
        rcases cmp_great hx with o2 | o2
        · go_wp2_with fail
          refine hst.mono ?_
          rintro e w' ⟨rfl, rfl⟩
          go_wp2_with fail
          refine hst.mono ?_
          rintro e w' ⟨rfl, rfl⟩
          go_wp2_with fail
          refine (size_ok H2.out).mono ?_
          rintro e w' ⟨rfl, rfl⟩
          go_wp2_with fail
          go_ret
          exact ⟨rfl, K2.out⟩
        · go_wp2_with fail
          refine hst.mono ?_
          rintro e w' ⟨rfl, rfl⟩
          go_wp2_with fail
          refine hst.mono ?_
          rintro e w' ⟨rfl, rfl⟩
          go_wp2_with fail
          refine (size_ok H2.out).mono ?_
          rintro e w' ⟨rfl, rfl⟩
          go_wp2_with fail
          go_ret
          exact ⟨rfl, K2.out⟩
end Go.Proofs.Ytldgeclcbikmbaa
