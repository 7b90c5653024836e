/- down: an entry moved down, the memory behind it. -/
import Derived.Test.YtldgeclcbikmbaaHeapC
set_option linter.unusedVariables false
set_option linter.unusedSimpArgs false
namespace Go.Proofs.Ytldgeclcbikmbaa
open Go.RowKit

/-- Which child comes up. -/
def kid (ah : Nat → Nat → Bool) (l : List Nat) (i : Nat) : Nat :=
  if 2 * i + 2 < l.length ∧ ah (l.getD (2 * i + 2) 0) (l.getD (2 * i + 1) 0) = true then 2 * i + 2 else 2 * i + 1
theorem kid_gt (ah : Nat → Nat → Bool) (l : List Nat) (i : Nat) : i < kid ah l i := by unfold kid; split <;> omega
theorem kid_lt (ah : Nat → Nat → Bool) (l : List Nat) (i : Nat) (h : 2 * i + 1 < l.length) : kid ah l i < l.length := by unfold kid; split <;> omega

/-- How far down. -/
def downL (ah : Nat → Nat → Bool) (x : Nat) (i : Nat) (l : List Nat) (ps : List Int) : List Nat × List Int :=
  if h : 2 * i + 1 < l.length then
    if ah (l.getD (kid ah l i) 0) x then downL ah x (kid ah l i) (l.set i (l.getD (kid ah l i) 0)) (ps.set (l.getD (kid ah l i) 0) (i : Int))
    else (l.set i x, ps.set x (i : Int))
  else (l.set i x, ps.set x (i : Int))
  termination_by l.length - i
  decreasing_by
  have := kid_gt ah l i
  rw [List.length_set]
  omega

theorem downL_go {ah : Nat → Nat → Bool} {x i : Nat} {l : List Nat} {ps : List Int} (h0 : 2 * i + 1 < l.length) (h1 : ah (l.getD (kid ah l i) 0) x = true) :
    downL ah x i l ps = downL ah x (kid ah l i) (l.set i (l.getD (kid ah l i) 0)) (ps.set (l.getD (kid ah l i) 0) (i : Int)) := by
  rw [downL, dif_pos h0, if_pos h1]
theorem downL_stop {ah : Nat → Nat → Bool} {x i : Nat} {l : List Nat} {ps : List Int} (h : 2 * i + 1 < l.length → ah (l.getD (kid ah l i) 0) x = false) :
    downL ah x i l ps = (l.set i x, ps.set x (i : Int)) := by
  rw [downL]
  split
  · rename_i h0
    rw [if_neg (by rw [h h0]; simp)]
  · rfl

set_option maxHeartbeats 4000000 in
theorem down_heap {w : World} {H V bs bp : Nat} {lv : Value} {s : HS} (h : HeapAt w H V bs bp lv s) {i : Nat} (hi : i < s.l.length) :
    Calls Try.prog 37 #[.pointer (some ⟨H, 0, none⟩), .int .i64 i] w fun e w' => e = .returned (.tuple #[]) ∧
      HeapAt w' H V bs bp lv { s with l := (downL (ahs s.fs) (s.l.getD i 0) i s.l s.ps).1, ps := (downL (ahs s.fs) (s.l.getD i 0) i s.l s.ps).2 } ∧ Fr (fun b => lv.ownBlock = some b ∨ b = bp) w w' := by
  obtain ⟨g, cap, more, e, hb, hc, -⟩ := h.row (by omega)
  have hx := h.elem hi
  obtain ⟨x, ex⟩ : ∃ x, x = s.l.getD i 0 := ⟨_, rfl⟩
  rw [← ex] at hx ⊢
  have c0 : w.cell? ⟨H, 0, none⟩ = some (.slice (some ⟨g, 0, none⟩) s.l.length cap) := h.hH.cell (by rw [e]; rfl)
  have ci : w.cell? ⟨g, i, none⟩ = some (.int .i64 (x : Int)) := by rw [ex]; exact hb.cell (nvl_get _ _ hi)
  have g1 : (0 : Int) ≤ (i : Int) := by omega
  have g2 : (i : Int) < (s.l.length : Int) := by omega
  have hL := h.hL
  obtain ⟨L, eL⟩ : ∃ L, L = s.l.length := ⟨_, rfl⟩
  rw [← eL] at hi hL g2 c0
  have HE := Lib.hid e
  have HX := Lib.hid ex
  have HB := Lib.hid hb
  have HL := Lib.hid eL
  have HH := Lib.hid h
  clear e ex hb eL h
  go_enter Try.func37, Try.ntmps37
  go_wp2
  go_loopw [1, 5] (fun at_ k_ wr => ∃ (j : Nat) (l' : List Nat) (ps' : List Int), at_ = .int .i64 j ∧ j < L ∧ Hid (l'.length = L) ∧ Hid (downL (ahs s.fs) x j l' ps' = downL (ahs s.fs) x i s.l s.ps) ∧ Hid (HeapAt wr H V bs bp lv { s with l := l', ps := ps' }) ∧ Hid (Fr (fun b => lv.ownBlock = some b ∨ b = bp) w wr))
    (fun at_ _ _ => L - (intOf at_).toNat)
  case atStart => exact ⟨i, s.l, s.ps, rfl, hi, HL.out.symm, rfl, HH.out, Fr.refl _ _⟩
  case round =>
    obtain ⟨j, l', ps', rfl, hj, H1, H2, H3, H4⟩ := hrel
    have h := H3.out
    obtain ⟨more', hb'⟩ : ∃ more', Blk wr g (nvl l' ++ more') 3 := by
      obtain ⟨g', cap', more', e', hb', -⟩ := h.row (by rw [H1.out]; omega)
      rw [HE.out] at e'
      simp only [Value.slice.injEq, Option.some.injEq, Addr.mk.injEq] at e'
      obtain ⟨⟨rfl, -⟩, -⟩ := e'
      exact ⟨more', hb'⟩
    have d0 : wr.cell? ⟨H, 0, none⟩ = some (.slice (some ⟨g, 0, none⟩) L cap) := by have := h.hH.cell (i := 0) rfl; rw [HE.out] at this; rw [HL.out]; exact this
    have d1 : wr.cell? ⟨H, 1, none⟩ = some (.func (.func 28) #[.pointer (some ⟨H, 0, none⟩)] #[]) := h.hH.cell rfl
    have hp1 := fun k => put_heap (h.drewN k) (v := x) (i := j) hx (by rw [H1.out]; exact hj)
    have hF := fun k => H4.out.then (Fr.drewN wr k) (fun _ _ e => e.elim)
    by_cases c1 : 2 * j + 1 < L
    · have c1' : 2 * (j : Int) + 1 < (L : Int) := by omega
      have hl1 : 2 * j + 1 < l'.length := by rw [H1.out]; exact c1
      have hy1 := h.elem (i := 2 * j + 1) hl1
      have d2' := hb'.cell (nvl_get _ more' hl1)
      obtain ⟨y1, ey1⟩ : ∃ y, y = l'.getD (2 * j + 1) 0 := ⟨_, rfl⟩
      have HY1 := Lib.hid ey1
      rw [← ey1] at d2' hy1
      clear ey1
      have d2 : wr.cell? ⟨g, 2 * j + 1, none⟩ = some (.int .i64 (y1 : Int)) := d2'
      clear d2'
      have t1 : (0 : Int) ≤ 2 * (j : Int) + 1 := by omega
      have w1 : IntKind.i64.wrap (2 * (j : Int) + 1 + 1) = 2 * (j : Int) + 2 := by rw [IntWalk.i64_in _ (by omega)]; omega
      by_cases c2 : 2 * j + 2 < L
      · have c2' : decide (2 * (j : Int) + 2 < (L : Int)) = true := by simp; omega
        have c2'' : 2 * (j : Int) + 2 < (L : Int) := by omega
        have t2 : (0 : Int) ≤ 2 * (j : Int) + 2 := by omega
        have t3 : (2 * (j : Int) + 2).toNat = 2 * j + 2 := by omega
        have t4 : (2 * (j : Int) + 1).toNat = 2 * j + 1 := by omega
        have hl2 : 2 * j + 2 < l'.length := by rw [H1.out]; exact c2
        have hy2 := h.elem (i := 2 * j + 2) hl2
        have d3' := hb'.cell (nvl_get _ more' hl2)
        obtain ⟨y2, ey2⟩ : ∃ y, y = l'.getD (2 * j + 2) 0 := ⟨_, rfl⟩
        have HY2 := Lib.hid ey2
        rw [← ey2] at d3' hy2
        clear ey2
        have d3 : wr.cell? ⟨g, 2 * j + 2, none⟩ = some (.int .i64 (y2 : Int)) := d3'
        clear d3'
        have ha := fun k => ahead_heap (h.drewN k) hy2 hy1
        cases hd1 : ahs s.fs y2 y1
        · simp only [hd1] at ha
          have HD1 := Lib.hid hd1
          clear hd1
          have hk : kid (ahs s.fs) l' j = 2 * j + 1 := by unfold kid; rw [if_neg (by rw [← HY1.out, ← HY2.out, HD1.out]; simp)]
          have HK := Lib.hid hk
          clear hk
          have hp2 := fun k => put_heap (h.drewN k) (v := y1) (i := j) hy1 (by rw [H1.out]; exact hj)
          have hb2 := fun k => ahead_heap (h.drewN k) hy1 hx
          cases hd : ahs s.fs y1 x
          · simp only [hd] at hb2
            have HD := Lib.hid hd
            clear hd
            clear hp2
            go_wp2
            go_quiet ((go_at_call 28; exact Calls.quiet_of (ha _)))
            clear w1
            go_wp2
            obtain ⟨wz, ewz⟩ : ∃ wz, wz = wr.drewN nq := ⟨_, rfl⟩
            have z0 : wz.cell? ⟨H, 0, none⟩ = some (.slice (some ⟨g, 0, none⟩) L cap) := by rw [ewz]; exact d0
            have z1 : wz.cell? ⟨H, 1, none⟩ = some (.func (.func 28) #[.pointer (some ⟨H, 0, none⟩)] #[]) := by rw [ewz]; exact d1
            have z2 : wz.cell? ⟨g, 2 * j + 1, none⟩ = some (.int .i64 (y1 : Int)) := by rw [ewz]; exact d2
            have hb3 : ∀ k, Calls Try.prog 28 #[.pointer (some ⟨H, 0, none⟩), .int .i64 y1, .int .i64 x] (wz.drewN k) fun e w' => e = .returned (.bool false) ∧ ∃ m, w' = (wz.drewN k).drewN m := fun k => by rw [ewz, World.drewN_drewN]; exact hb2 _
            have hp3 : ∀ k, Calls Try.prog 38 #[.pointer (some ⟨H, 0, none⟩), .int .i64 x, .int .i64 j] (wz.drewN k) fun e w' => e = .returned (.tuple #[]) ∧ HeapAt w' H V bs bp lv { s with l := l'.set j x, ps := ps'.set x (j : Int) } ∧ Fr (fun b => lv.ownBlock = some b ∨ b = bp) (wz.drewN k) w' := fun k => by rw [ewz, World.drewN_drewN]; exact hp1 _
            have hF2 : Fr (fun b => lv.ownBlock = some b ∨ b = bp) w wz := by rw [ewz]; exact hF _
            have HF2 := Lib.hid hF2
            clear hF2
            rw [← ewz]
            clear ewz hb2 hp1
            go_quiet ((go_at_call 28; exact Calls.quiet_of (hb3 _)))
            go_wp2_with (go_at_call 38; ((with_reducible refine (hp3 _).mono ?_); rintro e w' ⟨rfl, h5, h6⟩))
            go_end0
            refine ⟨rfl, ?_, ?_⟩
            · rw [← H2.out, downL_stop (fun _ => by rw [HK.out, ← HY1.out]; exact HD.out)]; exact h5
            · exact (HF2.out.then (Fr.drewN _ _) (fun _ _ e => e.elim)).then h6 (fun _ _ e => e)
          · simp only [hd] at hb2
            have HD := Lib.hid hd
            clear hd
            clear hp1
            go_wp2
            go_quiet ((go_at_call 28; exact Calls.quiet_of (ha _)))
            clear w1
            go_wp2
            obtain ⟨wz, ewz⟩ : ∃ wz, wz = wr.drewN nq := ⟨_, rfl⟩
            have z0 : wz.cell? ⟨H, 0, none⟩ = some (.slice (some ⟨g, 0, none⟩) L cap) := by rw [ewz]; exact d0
            have z1 : wz.cell? ⟨H, 1, none⟩ = some (.func (.func 28) #[.pointer (some ⟨H, 0, none⟩)] #[]) := by rw [ewz]; exact d1
            have z2 : wz.cell? ⟨g, 2 * j + 1, none⟩ = some (.int .i64 (y1 : Int)) := by rw [ewz]; exact d2
            have hb3 : ∀ k, Calls Try.prog 28 #[.pointer (some ⟨H, 0, none⟩), .int .i64 y1, .int .i64 x] (wz.drewN k) fun e w' => e = .returned (.bool true) ∧ ∃ m, w' = (wz.drewN k).drewN m := fun k => by rw [ewz, World.drewN_drewN]; exact hb2 _
            have hp3 : ∀ k, Calls Try.prog 38 #[.pointer (some ⟨H, 0, none⟩), .int .i64 y1, .int .i64 j] (wz.drewN k) fun e w' => e = .returned (.tuple #[]) ∧ HeapAt w' H V bs bp lv { s with l := l'.set j y1, ps := ps'.set y1 (j : Int) } ∧ Fr (fun b => lv.ownBlock = some b ∨ b = bp) (wz.drewN k) w' := fun k => by rw [ewz, World.drewN_drewN]; exact hp2 _
            have hF2 : Fr (fun b => lv.ownBlock = some b ∨ b = bp) w wz := by rw [ewz]; exact hF _
            have HF2 := Lib.hid hF2
            clear hF2
            rw [← ewz]
            clear ewz hb2 hp2
            go_quiet ((go_at_call 28; exact Calls.quiet_of (hb3 _)))
            go_wp2_with (go_at_call 38; ((with_reducible refine (hp3 _).mono ?_); rintro e w' ⟨rfl, h5, h6⟩))
            go_roundw
            case rel =>
              refine ⟨2 * j + 1, l'.set j y1, ps'.set y1 (j : Int), (by go_num), by omega, ?_, ?_, h5, ?_⟩
              · show (l'.set j _).length = L
                rw [List.length_set]; exact H1.out
              · show downL _ _ _ _ _ = _
                rw [← H2.out, downL_go (l := l') (i := j) (by rw [H1.out]; exact c1) (by rw [HK.out, ← HY1.out]; exact HD.out), HK.out, ← HY1.out]
              · exact (HF2.out.then (Fr.drewN _ _) (fun _ _ e => e.elim)).then h6 (fun _ _ e => e)
            case measure => simp [intOf]; omega
        · simp only [hd1] at ha
          have HD1 := Lib.hid hd1
          clear hd1
          have hk : kid (ahs s.fs) l' j = 2 * j + 2 := by unfold kid; rw [if_pos ⟨by rw [H1.out]; omega, by rw [← HY1.out, ← HY2.out]; exact HD1.out⟩]
          have HK := Lib.hid hk
          clear hk
          have hp2 := fun k => put_heap (h.drewN k) (v := y2) (i := j) hy2 (by rw [H1.out]; exact hj)
          have hb2 := fun k => ahead_heap (h.drewN k) hy2 hx
          cases hd : ahs s.fs y2 x
          · simp only [hd] at hb2
            have HD := Lib.hid hd
            clear hd
            clear hp2
            go_wp2
            go_quiet ((go_at_call 28; exact Calls.quiet_of (ha _)))
            clear w1
            go_wp2
            obtain ⟨wz, ewz⟩ : ∃ wz, wz = wr.drewN nq := ⟨_, rfl⟩
            have z0 : wz.cell? ⟨H, 0, none⟩ = some (.slice (some ⟨g, 0, none⟩) L cap) := by rw [ewz]; exact d0
            have z1 : wz.cell? ⟨H, 1, none⟩ = some (.func (.func 28) #[.pointer (some ⟨H, 0, none⟩)] #[]) := by rw [ewz]; exact d1
            have z2 : wz.cell? ⟨g, 2 * j + 2, none⟩ = some (.int .i64 (y2 : Int)) := by rw [ewz]; exact d3
            have hb3 : ∀ k, Calls Try.prog 28 #[.pointer (some ⟨H, 0, none⟩), .int .i64 y2, .int .i64 x] (wz.drewN k) fun e w' => e = .returned (.bool false) ∧ ∃ m, w' = (wz.drewN k).drewN m := fun k => by rw [ewz, World.drewN_drewN]; exact hb2 _
            have hp3 : ∀ k, Calls Try.prog 38 #[.pointer (some ⟨H, 0, none⟩), .int .i64 x, .int .i64 j] (wz.drewN k) fun e w' => e = .returned (.tuple #[]) ∧ HeapAt w' H V bs bp lv { s with l := l'.set j x, ps := ps'.set x (j : Int) } ∧ Fr (fun b => lv.ownBlock = some b ∨ b = bp) (wz.drewN k) w' := fun k => by rw [ewz, World.drewN_drewN]; exact hp1 _
            have hF2 : Fr (fun b => lv.ownBlock = some b ∨ b = bp) w wz := by rw [ewz]; exact hF _
            have HF2 := Lib.hid hF2
            clear hF2
            rw [← ewz]
            clear ewz hb2 hp1
            go_quiet ((go_at_call 28; exact Calls.quiet_of (hb3 _)))
            go_wp2_with (go_at_call 38; ((with_reducible refine (hp3 _).mono ?_); rintro e w' ⟨rfl, h5, h6⟩))
            go_end0
            refine ⟨rfl, ?_, ?_⟩
            · rw [← H2.out, downL_stop (fun _ => by rw [HK.out, ← HY2.out]; exact HD.out)]; exact h5
            · exact (HF2.out.then (Fr.drewN _ _) (fun _ _ e => e.elim)).then h6 (fun _ _ e => e)
          · simp only [hd] at hb2
            have HD := Lib.hid hd
            clear hd
            clear hp1
            go_wp2
            go_quiet ((go_at_call 28; exact Calls.quiet_of (ha _)))
            clear w1
            go_wp2
            obtain ⟨wz, ewz⟩ : ∃ wz, wz = wr.drewN nq := ⟨_, rfl⟩
            have z0 : wz.cell? ⟨H, 0, none⟩ = some (.slice (some ⟨g, 0, none⟩) L cap) := by rw [ewz]; exact d0
            have z1 : wz.cell? ⟨H, 1, none⟩ = some (.func (.func 28) #[.pointer (some ⟨H, 0, none⟩)] #[]) := by rw [ewz]; exact d1
            have z2 : wz.cell? ⟨g, 2 * j + 2, none⟩ = some (.int .i64 (y2 : Int)) := by rw [ewz]; exact d3
            have hb3 : ∀ k, Calls Try.prog 28 #[.pointer (some ⟨H, 0, none⟩), .int .i64 y2, .int .i64 x] (wz.drewN k) fun e w' => e = .returned (.bool true) ∧ ∃ m, w' = (wz.drewN k).drewN m := fun k => by rw [ewz, World.drewN_drewN]; exact hb2 _
            have hp3 : ∀ k, Calls Try.prog 38 #[.pointer (some ⟨H, 0, none⟩), .int .i64 y2, .int .i64 j] (wz.drewN k) fun e w' => e = .returned (.tuple #[]) ∧ HeapAt w' H V bs bp lv { s with l := l'.set j y2, ps := ps'.set y2 (j : Int) } ∧ Fr (fun b => lv.ownBlock = some b ∨ b = bp) (wz.drewN k) w' := fun k => by rw [ewz, World.drewN_drewN]; exact hp2 _
            have hF2 : Fr (fun b => lv.ownBlock = some b ∨ b = bp) w wz := by rw [ewz]; exact hF _
            have HF2 := Lib.hid hF2
            clear hF2
            rw [← ewz]
            clear ewz hb2 hp2
            go_quiet ((go_at_call 28; exact Calls.quiet_of (hb3 _)))
            go_wp2_with (go_at_call 38; ((with_reducible refine (hp3 _).mono ?_); rintro e w' ⟨rfl, h5, h6⟩))
            go_roundw
            case rel =>
              refine ⟨2 * j + 2, l'.set j y2, ps'.set y2 (j : Int), (by go_num), by omega, ?_, ?_, h5, ?_⟩
              · show (l'.set j _).length = L
                rw [List.length_set]; exact H1.out
              · show downL _ _ _ _ _ = _
                rw [← H2.out, downL_go (l := l') (i := j) (by rw [H1.out]; exact c1) (by rw [HK.out, ← HY2.out]; exact HD.out), HK.out, ← HY2.out]
              · exact (HF2.out.then (Fr.drewN _ _) (fun _ _ e => e.elim)).then h6 (fun _ _ e => e)
            case measure => simp [intOf]; omega
      · have c2' : decide (2 * (j : Int) + 2 < (L : Int)) = false := by simp; omega
        have t3 : (2 * (j : Int) + 2).toNat = 2 * j + 2 := by omega
        have t4 : (2 * (j : Int) + 1).toNat = 2 * j + 1 := by omega
        have hk : kid (ahs s.fs) l' j = 2 * j + 1 := by unfold kid; rw [if_neg (by rw [H1.out]; omega)]
        have HK := Lib.hid hk
        clear hk
        have hp2 := fun k => put_heap (h.drewN k) (v := y1) (i := j) hy1 (by rw [H1.out]; exact hj)
        have hb2 := fun k => ahead_heap (h.drewN k) hy1 hx
        cases hd : ahs s.fs y1 x
        · simp only [hd] at hb2
          have HD := Lib.hid hd
          clear hd
          clear hp2
          go_wp2
          go_quiet (fail)
          clear w1
          go_wp2
          obtain ⟨wz, ewz⟩ : ∃ wz, wz = wr.drewN nq := ⟨_, rfl⟩
          have z0 : wz.cell? ⟨H, 0, none⟩ = some (.slice (some ⟨g, 0, none⟩) L cap) := by rw [ewz]; exact d0
          have z1 : wz.cell? ⟨H, 1, none⟩ = some (.func (.func 28) #[.pointer (some ⟨H, 0, none⟩)] #[]) := by rw [ewz]; exact d1
          have z2 : wz.cell? ⟨g, 2 * j + 1, none⟩ = some (.int .i64 (y1 : Int)) := by rw [ewz]; exact d2
          have hb3 : ∀ k, Calls Try.prog 28 #[.pointer (some ⟨H, 0, none⟩), .int .i64 y1, .int .i64 x] (wz.drewN k) fun e w' => e = .returned (.bool false) ∧ ∃ m, w' = (wz.drewN k).drewN m := fun k => by rw [ewz, World.drewN_drewN]; exact hb2 _
          have hp3 : ∀ k, Calls Try.prog 38 #[.pointer (some ⟨H, 0, none⟩), .int .i64 x, .int .i64 j] (wz.drewN k) fun e w' => e = .returned (.tuple #[]) ∧ HeapAt w' H V bs bp lv { s with l := l'.set j x, ps := ps'.set x (j : Int) } ∧ Fr (fun b => lv.ownBlock = some b ∨ b = bp) (wz.drewN k) w' := fun k => by rw [ewz, World.drewN_drewN]; exact hp1 _
          have hF2 : Fr (fun b => lv.ownBlock = some b ∨ b = bp) w wz := by rw [ewz]; exact hF _
          have HF2 := Lib.hid hF2
          clear hF2
          rw [← ewz]
          clear ewz hb2 hp1
          go_quiet ((go_at_call 28; exact Calls.quiet_of (hb3 _)))
          go_wp2_with (go_at_call 38; ((with_reducible refine (hp3 _).mono ?_); rintro e w' ⟨rfl, h5, h6⟩))
          go_end0
          refine ⟨rfl, ?_, ?_⟩
          · rw [← H2.out, downL_stop (fun _ => by rw [HK.out, ← HY1.out]; exact HD.out)]; exact h5
          · exact (HF2.out.then (Fr.drewN _ _) (fun _ _ e => e.elim)).then h6 (fun _ _ e => e)
        · simp only [hd] at hb2
          have HD := Lib.hid hd
          clear hd
          clear hp1
          go_wp2
          go_quiet (fail)
          clear w1
          go_wp2
          obtain ⟨wz, ewz⟩ : ∃ wz, wz = wr.drewN nq := ⟨_, rfl⟩
          have z0 : wz.cell? ⟨H, 0, none⟩ = some (.slice (some ⟨g, 0, none⟩) L cap) := by rw [ewz]; exact d0
          have z1 : wz.cell? ⟨H, 1, none⟩ = some (.func (.func 28) #[.pointer (some ⟨H, 0, none⟩)] #[]) := by rw [ewz]; exact d1
          have z2 : wz.cell? ⟨g, 2 * j + 1, none⟩ = some (.int .i64 (y1 : Int)) := by rw [ewz]; exact d2
          have hb3 : ∀ k, Calls Try.prog 28 #[.pointer (some ⟨H, 0, none⟩), .int .i64 y1, .int .i64 x] (wz.drewN k) fun e w' => e = .returned (.bool true) ∧ ∃ m, w' = (wz.drewN k).drewN m := fun k => by rw [ewz, World.drewN_drewN]; exact hb2 _
          have hp3 : ∀ k, Calls Try.prog 38 #[.pointer (some ⟨H, 0, none⟩), .int .i64 y1, .int .i64 j] (wz.drewN k) fun e w' => e = .returned (.tuple #[]) ∧ HeapAt w' H V bs bp lv { s with l := l'.set j y1, ps := ps'.set y1 (j : Int) } ∧ Fr (fun b => lv.ownBlock = some b ∨ b = bp) (wz.drewN k) w' := fun k => by rw [ewz, World.drewN_drewN]; exact hp2 _
          have hF2 : Fr (fun b => lv.ownBlock = some b ∨ b = bp) w wz := by rw [ewz]; exact hF _
          have HF2 := Lib.hid hF2
          clear hF2
          rw [← ewz]
          clear ewz hb2 hp2
          go_quiet ((go_at_call 28; exact Calls.quiet_of (hb3 _)))
          go_wp2_with (go_at_call 38; ((with_reducible refine (hp3 _).mono ?_); rintro e w' ⟨rfl, h5, h6⟩))
          go_roundw
          case rel =>
            refine ⟨2 * j + 1, l'.set j y1, ps'.set y1 (j : Int), (by go_num), by omega, ?_, ?_, h5, ?_⟩
            · show (l'.set j _).length = L
              rw [List.length_set]; exact H1.out
            · show downL _ _ _ _ _ = _
              rw [← H2.out, downL_go (l := l') (i := j) (by rw [H1.out]; exact c1) (by rw [HK.out, ← HY1.out]; exact HD.out), HK.out, ← HY1.out]
            · exact (HF2.out.then (Fr.drewN _ _) (fun _ _ e => e.elim)).then h6 (fun _ _ e => e)
          case measure => simp [intOf]; omega
    · have c1' : ¬ 2 * (j : Int) + 1 < (L : Int) := by omega
      have hp0 := put_heap h (v := x) (i := j) hx (by rw [H1.out]; exact hj)
      go_wp2_with (go_at_call 38; ((with_reducible refine hp0.mono ?_); rintro e w' ⟨rfl, h5, h6⟩))
      go_end0
      refine ⟨rfl, ?_, ?_⟩
      · rw [← H2.out, downL_stop (fun h0 => absurd h0 (by rw [H1.out]; exact c1))]; exact h5
      · exact H4.out.then h6 (fun _ _ e => e)
end Go.Proofs.Ytldgeclcbikmbaa
