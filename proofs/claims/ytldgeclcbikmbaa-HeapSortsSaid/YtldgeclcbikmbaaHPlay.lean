/- play: the heap behind a script is in a right state. -/
import Derived.Test.YtldgeclcbikmbaaHConsts
import Derived.Test.YtldgeclcbikmbaaHeapZ
import Derived.Deep.CutRange
import Derived.Deep.DeepCutAuto
import Derived.Deep.CutBlock
set_option linter.unusedVariables false
set_option linter.unusedSimpArgs false
namespace Go.Proofs.Ytldgeclcbikmbaa
open Go.RowKit

/-- A slice of m acts lies in memory. -/
def ActsAt (w : World) (v : Value) (m : Nat) : Prop :=
  ∃ ao cap, v = .slice ao m cap ∧ m ≤ 9223372036854775807 ∧ ∀ i, i < m → ∃ (g off : Nat) (a b c : Int), ao = some ⟨g, off, none⟩ ∧ w.cell? ⟨g, off + i * 3, none⟩ = some (.int .i64 a) ∧ w.cell? ⟨g, off + i * 3 + 1, none⟩ = some (.int .i64 b) ∧ w.cell? ⟨g, off + i * 3 + 2, none⟩ = some (.int .i64 c)

set_option maxHeartbeats 400000 in
theorem times_ok (w : World) (a b c : Int) : Calls Try.prog 23 #[.agg #[.int .i64 a, .int .i64 b, .int .i64 c]] w fun e w' => (∃ r : Int, e = .returned (.int .i64 r) ∧ r < 10000) ∧ Fr (fun _ => False) w w' := by
  go_enter Try.func23, Try.ntmps23
  go_wp2
  go_ret
  exact ⟨⟨_, rfl, Int.tmod_lt_of_pos c (by decide)⟩, Fr.alloc _ _⟩

/-- What play hands back. -/
def PlayPost (a0 : Int) (w : World) (e : Ending) (w' : World) : Prop :=
  Below w.heap.size w w' ∧ ((¬ (0 ≤ a0 ∧ a0 ≤ 1048576) ∧ e = .returned (.pointer none)) ∨ ((0 ≤ a0 ∧ a0 ≤ 1048576) ∧ ∃ H s, e = .returned (.pointer (some ⟨H, 0, none⟩)) ∧ HeapOk w.heap.size w' H s ∧ (s.fs.length : Int) = a0))

set_option maxHeartbeats 3200000 in
theorem play_ok (a0 : Int) (w : World) (sv : Value) (m : Nat) (hs : ActsAt w sv m) : Calls Try.prog 12 #[.int .i64 a0, sv] w (PlayPost a0 w) := by
  by_cases h0 : 0 ≤ a0 ∧ a0 ≤ 1048576
  · obtain ⟨n, rfl⟩ : ∃ n : Nat, a0 = n := ⟨a0.toNat, by omega⟩
    have hn : n ≤ 1048576 := by omega
    have HP0 := Lib.hid h0
    have hnew := new_ok n w hn
    obtain ⟨ao, cap, rfl, hm, hc⟩ := hs
    have HC := Lib.hid hc
    clear h0 hc
    go_enter Try.func12, Try.ntmps12
    go_wp2_with (first | (go_at_call 8; ((with_reducible refine hnew.mono ?_); rintro e w1 ⟨H, rfl, h1, k1⟩)) | fail)
    have h1b : HeapOk w.heap.size w1 H (newS n) := h1
    have hb1 : Below w.heap.size w w1 := k1.below (Nat.le_refl _) (fun _ e => e.elim)
    have H1 := Lib.hid h1b
    have HB1 := Lib.hid hb1
    clear h1 k1 h1b hb1 hnew
    go_loopw [7] (fun i_ wr => ∃ k : Nat, i_ = .int .i64 k ∧ k ≤ m ∧ Hid (∃ s, HeapOk w.heap.size wr H s ∧ s.fs.length = n) ∧ Hid (Below w.heap.size w wr)) (fun i_ _ => m - (intOf i_).toNat)
    case atStart => exact ⟨0, rfl, Nat.zero_le _, ⟨newS n, H1.out, newS_len n⟩, HB1.out⟩
    case round =>
      obtain ⟨k, rfl, hk, HS, HB⟩ := hrel
      by_cases hlt : k < m
      · obtain ⟨s, hs1, hs2⟩ := HS.out
        obtain ⟨g, off, a, b, c, rfl, q0, q1, q2⟩ := HC.out k hlt
        have hg : g < w.heap.size := block_lt_of_cell q0
        have c0 : wr.cell? ⟨g, off + k * 3, none⟩ = some (.int .i64 a) := (HB.out.cell (p := ⟨g, _, none⟩) hg).trans q0
        have c1 : wr.cell? ⟨g, off + k * 3 + 1, none⟩ = some (.int .i64 b) := (HB.out.cell (p := ⟨g, _, none⟩) hg).trans q1
        have c2 : wr.cell? ⟨g, off + k * 3 + 2, none⟩ = some (.int .i64 c) := (HB.out.cell (p := ⟨g, _, none⟩) hg).trans q2
        have b1 : (k : Int) < (m : Int) := by omega
        have b2 : (0 : Int) ≤ (k : Int) := by omega
        obtain ⟨W, eW⟩ : ∃ W, W = wr.alloc (.cells #[.int .i64 a, .int .i64 b, .int .i64 c] 56) := ⟨_, rfl⟩
        have fW : Fr (fun _ => False) wr W := by rw [eW]; exact Fr.alloc _ _
        have hA : Blk W wr.heap.size [.int .i64 a, .int .i64 b, .int .i64 c] 56 := by rw [eW]; exact Blk.new' rfl
        have hBs := hs1.size
        have hN : HeapN (fun x => x < w.heap.size ∨ x = wr.heap.size) W H s := (hs1.to_n.mono (fun x hx => by omega)).stay fW (fun _ _ _ e => e)
        have HW : Below w.heap.size w W := HB.out.trans (fW.below hBs (fun _ e => e.elim))
        have H3 := Lib.hid HW
        have HN := Lib.hid hN
        have HA := Lib.hid hA
        have d0 : W.cell? ⟨wr.heap.size, 0, none⟩ = some (.int .i64 a) := hA.cell rfl
        have d1 : W.cell? ⟨wr.heap.size, 1, none⟩ = some (.int .i64 b) := hA.cell rfl
        have d2 : W.cell? ⟨wr.heap.size, 2, none⟩ = some (.int .i64 c) := hA.cell rfl
        have eW2 : (wr.alloc (.cells #[.int .i64 a, .int .i64 b, .int .i64 c] 56)) = W := eW.symm
        clear HS hs1 HB q0 q1 q2 hg fW hA hN HW eW hlt
        have hlW : ∀ x, (x < w.heap.size ∨ x = wr.heap.size) → x < W.heap.size := fun x hx => by have := HA.out.lt; omega
        have HL := Lib.hid hlW
        clear hlW
        by_cases a0 : a = 0
        · subst a0
          have e0 : ((0 : Int) == 0) = true := rfl
          go_wp2_with fail
          refine (push_ok (HN.out.to_ok (fun x hx => .inl hx)) b).mono ?_
          rintro e w2 ⟨rfl, h2, k2⟩
          have H4 := Lib.hid h2
          have H5 := Lib.hid k2
          clear h2 k2
          go_wp2_with fail
          go_roundw
          case rel => exact ⟨k + 1, (by go_num), by omega, ⟨_, H4.out, by rw [pushX_len]; exact hs2⟩, H3.out.trans H5.out⟩
          case measure => simp [intOf]; omega
        · have e0 : (a == 0) = false := by simpa using a0
          by_cases a1 : a = 1
          · subst a1
            have e1 : ((1 : Int) == 1) = true := rfl
            go_wp2_with fail
            have h := HN.out.to_ok (B := w.heap.size) (fun x hx => .inl hx)
            by_cases hl : s.l.length = 0
            · refine (pop_no h hl).mono ?_
              rintro e w2 ⟨rfl, rfl⟩
              have H4 := Lib.hid h
              clear h hl
              go_wp2_with fail
              go_roundw
              case rel => exact ⟨k + 1, (by go_num), by omega, ⟨_, H4.out, hs2⟩, H3.out⟩
              case measure => simp [intOf]; omega
            · refine (pop_ok h (by omega)).mono ?_
              rintro e w2 ⟨rfl, h2, k2⟩
              have H4 := Lib.hid h2
              have H5 := Lib.hid k2
              clear h h2 k2 hl
              go_wp2_with fail
              go_roundw
              case rel => exact ⟨k + 1, (by go_num), by omega, ⟨_, H4.out, by rw [popS_len]; exact hs2⟩, H3.out.trans H5.out⟩
              case measure => simp [intOf]; omega
          · have e1 : (a == 1) = false := by simpa using a1
            by_cases a2 : a = 2
            · subst a2
              have e2 : ((2 : Int) == 2) = true := rfl
              go_wp2_with fail
              generalize wr.heap.size = A at HA HN HL d0 d1 d2 hBs ⊢
              go_loopw [9] (fun j_ wr => ∃ j : Nat, j_ = .int .i64 j ∧ j ≤ 10000 ∧ Hid (∃ s, HeapN (fun x => x < w.heap.size ∨ x = A) wr H s ∧ s.fs.length = n) ∧ Hid (Fr (fun x => ¬ (x < w.heap.size ∨ x = A)) W wr)) (fun j_ _ => 10000 - (intOf j_).toNat)
              case atStart => exact ⟨0, rfl, Nat.zero_le _, ⟨s, HN.out, hs2⟩, Fr.refl _ _⟩
              case round =>
                obtain ⟨j, rfl, hj, HS2, HF2⟩ := hrel
                have hA2 : Blk wr A [.int .i64 2, .int .i64 b, .int .i64 c] 56 := HA.out.keep HF2.out (fun e => e (.inr rfl))
                have d0 : wr.cell? ⟨A, 0, none⟩ = some (.int .i64 2) := hA2.cell rfl
                have d1 : wr.cell? ⟨A, 1, none⟩ = some (.int .i64 b) := hA2.cell rfl
                have d2 : wr.cell? ⟨A, 2, none⟩ = some (.int .i64 c) := hA2.cell rfl
                have HA2 := Lib.hid hA2
                clear hA2
                go_wp2_with fail
                refine (times_ok wr 2 b c).mono ?_
                rintro e w3 ⟨⟨r, rfl, hr⟩, k3⟩
                have hF3 : Fr (fun x => ¬ (x < w.heap.size ∨ x = A)) W w3 := HF2.out.then k3 (fun _ _ e => e.elim)
                have d3 : w3.cell? ⟨A, 1, none⟩ = some (.int .i64 b) := k3.cell (p := ⟨A, 1, none⟩) (fun e => e) d1
                obtain ⟨s2, n2, l2⟩ := HS2.out
                have n3 := n2.stay k3 (fun _ _ _ e => e)
                have HN3 := Lib.hid n3
                have HF3 := Lib.hid hF3
                have hl3 : ∀ x, (x < w.heap.size ∨ x = A) → x < w3.heap.size := fun x hx => Nat.lt_of_lt_of_le (HL.out x hx) hF3.size
                have HL3 := Lib.hid hl3
                clear n2 n3 hF3 hl3 k3 HS2 HF2 HA2 d0 d1 d2
                by_cases hjr : (j : Int) < r
                · have hj2 : j < 10000 := by omega
                  clear hr
                  go_wp2_with fail
                  refine (bump_n HN3.out HL3.out b).mono ?_
                  rintro e w4 ⟨rfl, n4, k4⟩
                  have HN4 := Lib.hid n4
                  have HF4 := Lib.hid (HF3.out.then k4 (fun _ _ e => e))
                  clear n4 k4
                  go_wp2_with fail
                  go_roundw
                  case rel => exact ⟨j + 1, (by go_num), by omega, ⟨_, HN4.out, (bumpX_len HN3.out.inv b).trans l2⟩, HF4.out⟩
                  case measure => simp [intOf]; omega
                · clear hr
                  go_wp2_with fail
                  go_roundw
                  case rel => exact ⟨k + 1, (by go_num), by omega, ⟨_, HN3.out.to_ok (fun x hx => .inl hx), l2⟩, H3.out.trans (HF3.out.below (by have := H3.out.size; omega) (fun x hx => Nat.le_of_not_lt (fun e => hx (.inl e))))⟩
                  case measure => simp [intOf]; omega
            · have e2 : (a == 2) = false := by simpa using a2
              by_cases a3 : a = 3
              · subst a3
                have e3 : ((3 : Int) == 3) = true := rfl
                go_wp2_with fail
                generalize wr.heap.size = A at HA HN HL d0 d1 d2 hBs ⊢
                go_loopw [10] (fun j_ wr => ∃ j : Nat, j_ = .int .i64 j ∧ j ≤ 10000 ∧ Hid (∃ s, HeapN (fun x => x < w.heap.size ∨ x = A) wr H s ∧ s.fs.length = n) ∧ Hid (Fr (fun x => ¬ (x < w.heap.size ∨ x = A)) W wr)) (fun j_ _ => 10000 - (intOf j_).toNat)
                case atStart => exact ⟨0, rfl, Nat.zero_le _, ⟨s, HN.out, hs2⟩, Fr.refl _ _⟩
                case round =>
                  obtain ⟨j, rfl, hj, HS2, HF2⟩ := hrel
                  have hA2 : Blk wr A [.int .i64 3, .int .i64 b, .int .i64 c] 56 := HA.out.keep HF2.out (fun e => e (.inr rfl))
                  have d0 : wr.cell? ⟨A, 0, none⟩ = some (.int .i64 3) := hA2.cell rfl
                  have d1 : wr.cell? ⟨A, 1, none⟩ = some (.int .i64 b) := hA2.cell rfl
                  have d2 : wr.cell? ⟨A, 2, none⟩ = some (.int .i64 c) := hA2.cell rfl
                  have HA2 := Lib.hid hA2
                  clear hA2
                  go_wp2_with fail
                  refine (times_ok wr 3 b c).mono ?_
                  rintro e w3 ⟨⟨r, rfl, hr⟩, k3⟩
                  have hF3 : Fr (fun x => ¬ (x < w.heap.size ∨ x = A)) W w3 := HF2.out.then k3 (fun _ _ e => e.elim)
                  have d3 : w3.cell? ⟨A, 1, none⟩ = some (.int .i64 b) := k3.cell (p := ⟨A, 1, none⟩) (fun e => e) d1
                  obtain ⟨s2, n2, l2⟩ := HS2.out
                  have n3 := n2.stay k3 (fun _ _ _ e => e)
                  have HN3 := Lib.hid n3
                  have HF3 := Lib.hid hF3
                  have hl3 : ∀ x, (x < w.heap.size ∨ x = A) → x < w3.heap.size := fun x hx => Nat.lt_of_lt_of_le (HL.out x hx) hF3.size
                  have HL3 := Lib.hid hl3
                  clear n2 n3 hF3 hl3 k3 HS2 HF2 HA2 d0 d1 d2
                  by_cases hjr : (j : Int) < r
                  · have hj2 : j < 10000 := by omega
                    clear hr
                    go_wp2_with fail
                    refine (decay_n HN3.out HL3.out).mono ?_
                    rintro e w4 ⟨rfl, n4, k4⟩
                    have HN4 := Lib.hid n4
                    have HF4 := Lib.hid (HF3.out.then k4 (fun _ _ e => e))
                    clear n4 k4
                    go_wp2_with fail
                    go_roundw
                    case rel => exact ⟨j + 1, (by go_num), by omega, ⟨_, HN4.out, (inv_decay HN3.out.inv).2.2.trans l2⟩, HF4.out⟩
                    case measure => simp [intOf]; omega
                  · clear hr
                    go_wp2_with fail
                    go_roundw
                    case rel => exact ⟨k + 1, (by go_num), by omega, ⟨_, HN3.out.to_ok (fun x hx => .inl hx), l2⟩, H3.out.trans (HF3.out.below (by have := H3.out.size; omega) (fun x hx => Nat.le_of_not_lt (fun e => hx (.inl e))))⟩
                    case measure => simp [intOf]; omega
              · have e3 : (a == 3) = false := by simpa using a3
                go_wp2_with fail
                go_roundw
                case rel => exact ⟨k + 1, (by go_num), by omega, ⟨_, HN.out.to_ok (fun x hx => .inl hx), hs2⟩, H3.out⟩
                case measure => simp [intOf]; omega
      · have b1 : ¬ (k : Int) < (m : Int) := by omega
        go_wp2
        go_ret
        obtain ⟨s, e1, e2⟩ := HS.out
        exact ⟨HB.out, .inr ⟨HP0.out, H, s, rfl, e1, by omega⟩⟩
  · have hn := new_no a0 w (by omega)
    obtain ⟨c, ec⟩ : ∃ c : Int, c = if a0 < 0 then 1 else 2 := ⟨_, rfl⟩
    have b3 : (c != 0) = true := by rw [ec]; split <;> rfl
    simp only [← ec] at hn
    obtain ⟨ao, cap, rfl, hm, hc⟩ := hs
    have HP0 := Lib.hid h0
    clear ec h0 hc
    go_enter Try.func12, Try.ntmps12
    go_wp2_with (first | (go_at_call 8; ((with_reducible refine hn.mono ?_); rintro e w1 ⟨rfl, rfl⟩)) | fail)
    go_ret
    exact ⟨Below.refl _ _, .inl ⟨HP0.out, rfl⟩⟩
end Go.Proofs.Ytldgeclcbikmbaa
