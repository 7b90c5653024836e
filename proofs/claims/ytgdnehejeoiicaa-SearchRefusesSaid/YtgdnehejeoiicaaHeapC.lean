/- up: an entry moved up, the memory behind it. -/
import Derived.Test.YtgdnehejeoiicaaHeapB
import Derived.Lib.Hide
namespace Go.Proofs.Ytgdnehejeoiicaa
open Go.RowKit

theorem upL_go {ah : Nat → Nat → Bool} {x i : Nat} {l : List Nat} {ps : List Int} (h0 : 0 < i) (h1 : ah x (l.getD ((i - 1) / 2) 0) = true) :
    upL ah x i l ps = upL ah x ((i - 1) / 2) (l.set i (l.getD ((i - 1) / 2) 0)) (ps.set (l.getD ((i - 1) / 2) 0) (i : Int)) := by
  rw [upL, dif_pos h0, if_pos h1]
theorem upL_stop {ah : Nat → Nat → Bool} {x i : Nat} {l : List Nat} {ps : List Int} (h : 0 < i → ah x (l.getD ((i - 1) / 2) 0) = false) :
    upL ah x i l ps = (l.set i x, ps.set x (i : Int)) := by
  rw [upL]
  split
  · rename_i h0
    rw [if_neg (by rw [h h0]; simp)]
  · rfl

theorem getD_lt {α : Type} (l : List α) (d : α) {i : Nat} (hi : i < l.length) : l.getD i d = l[i] := by simp [List.getD, hi]

theorem HeapAt.elem {w : World} {H V bs bp : Nat} {lv : Value} {s : HS} (h : HeapAt w H V bs bp lv s) {i : Nat} (hi : i < s.l.length) : s.l.getD i 0 < s.fs.length := by
  rw [getD_lt _ _ hi]
  exact h.hv _ (List.getElem_mem hi)
theorem nvl_get (l : List Nat) (more : List Value) {i : Nat} (hi : i < l.length) : (nvl l ++ more)[i]? = some (.int .i64 (l.getD i 0 : Nat)) := by
  rw [List.getElem?_append_left (by simpa [nvl] using hi), nvl, List.getElem?_map, List.getElem?_eq_getElem hi, getD_lt _ _ hi]; rfl
theorem fvl_get (l : List Nat) {i : Nat} (hi : i < l.length) : (fvl l)[i]? = some (.float .f64 (l.getD i 0)) := by
  rw [fvl, List.getElem?_map, List.getElem?_eq_getElem hi, getD_lt _ _ hi]; rfl

/-- 'ahead' at a heap. -/
theorem ahead_heap {w : World} {H V bs bp : Nat} {lv : Value} {s : HS} (h : HeapAt w H V bs bp lv s) {a b : Nat} (ha : a < s.fs.length) (hb : b < s.fs.length) :
    Calls Try.prog 64 #[.pointer (some ⟨H, 0, none⟩), .int .i64 a, .int .i64 b] w fun e w' => e = .returned (.bool (ahs s.fs a b)) ∧ ∃ k, w' = w.drewN k :=
  ahead_any H bs _ _ s.fs.length s.fs.length a b w ha hb h.hm (h.hH.cell rfl) (h.hs.cell (fvl_get _ ha)) (h.hs.cell (fvl_get _ hb))

theorem HeapAt.drewN {w : World} {H V bs bp : Nat} {lv : Value} {s : HS} (h : HeapAt w H V bs bp lv s) (k : Nat) : HeapAt (w.drewN k) H V bs bp lv s := ⟨h.hH, h.hV, h.hs, h.hp, h.hl, h.hlp, h.hn, h.hm, h.hv, h.hL⟩

set_option maxHeartbeats 800000 in
theorem up_heap {w : World} {H V bs bp : Nat} {lv : Value} {s : HS} (h : HeapAt w H V bs bp lv s) {i : Nat} (hi : i < s.l.length) :
    Calls Try.prog 66 #[.pointer (some ⟨H, 0, none⟩), .int .i64 i] w fun e w' => e = .returned (.tuple #[]) ∧
      HeapAt w' H V bs bp lv { s with l := (upL (ahs s.fs) (s.l.getD i 0) i s.l s.ps).1, ps := (upL (ahs s.fs) (s.l.getD i 0) i s.l s.ps).2 } ∧ Fr (fun b => lv.ownBlock = some b ∨ b = bp) w w' := by
  obtain ⟨g, cap, more, e, hb, hc, -⟩ := h.row (by omega)
  have hx := h.elem hi
  obtain ⟨x, ex⟩ : ∃ x, x = s.l.getD i 0 := ⟨_, rfl⟩
  rw [← ex] at hx ⊢
  have c0 : w.cell? ⟨H, 0, none⟩ = some (.slice (some ⟨g, 0, none⟩) s.l.length cap) := h.hH.cell (by rw [e]; rfl)
  have ci : w.cell? ⟨g, i, none⟩ = some (.int .i64 (x : Int)) := by rw [ex]; exact hb.cell (nvl_get _ _ hi)
  have g1 : (0 : Int) ≤ (i : Int) := by omega
  have g2 : (i : Int) < (s.l.length : Int) := by omega
  have hL := h.hL
  obtain ⟨L, eL⟩ : ∃ L, L = s.l.length := ⟨_, rfl⟩
  rw [← eL] at hi hL g2 c0
  have HE := Lib.hid e
  have HX := Lib.hid ex
  have HB := Lib.hid hb
  have HL := Lib.hid eL
  have HH := Lib.hid h
  clear e ex hb eL h
  go_enter Try.func66, Try.ntmps66
  go_wp2
  go_loopw [1] (fun at_ wr => ∃ (j : Nat) (l' : List Nat) (ps' : List Int), at_ = .int .i64 j ∧ j < L ∧ Hid (l'.length = L) ∧ Hid (upL (ahs s.fs) x j l' ps' = upL (ahs s.fs) x i s.l s.ps) ∧ Hid (HeapAt wr H V bs bp lv { s with l := l', ps := ps' }) ∧ Hid (Fr (fun b => lv.ownBlock = some b ∨ b = bp) w wr))
    (fun at_ _ => (intOf at_).toNat)
  case atStart => exact ⟨i, s.l, s.ps, rfl, hi, HL.out.symm, rfl, HH.out, Fr.refl _ _⟩
  case round =>
    obtain ⟨j, l', ps', rfl, hj, H1, H2, H3, H4⟩ := hrel
    have h := H3.out
    obtain ⟨more', hb'⟩ : ∃ more', Blk wr g (nvl l' ++ more') 3 := by
      obtain ⟨g', cap', more', e', hb', -⟩ := h.row (by rw [H1.out]; omega)
      rw [HE.out] at e'
      simp only [Value.slice.injEq, Option.some.injEq, Addr.mk.injEq] at e'
      obtain ⟨⟨rfl, -⟩, -⟩ := e'
      exact ⟨more', hb'⟩
    have d0 : wr.cell? ⟨H, 0, none⟩ = some (.slice (some ⟨g, 0, none⟩) L cap) := by have := h.hH.cell (i := 0) rfl; rw [HE.out] at this; rw [HL.out]; exact this
    have d1 : wr.cell? ⟨H, 1, none⟩ = some (.func (.func 64) #[.pointer (some ⟨H, 0, none⟩)] #[]) := h.hH.cell rfl
    by_cases hj0 : 0 < j
    · have hpl : (j - 1) / 2 < l'.length := by rw [H1.out]; omega
      have hpv := h.elem (i := (j - 1) / 2) hpl
      have d2' := hb'.cell (nvl_get _ more' hpl)
      obtain ⟨y, ey⟩ : ∃ y, y = l'.getD ((j - 1) / 2) 0 := ⟨_, rfl⟩
      have HY := Lib.hid ey
      rw [← ey] at d2' hpv
      clear ey
      have d2 : wr.cell? ⟨g, (j - 1) / 2, none⟩ = some (.int .i64 (y : Int)) := d2'
      clear d2'
      have ha := fun k => ahead_heap (h.drewN k) hx hpv
      have hp1 := fun k => put_heap (h.drewN k) (v := x) (i := j) hx (by rw [H1.out]; exact hj)
      have hp2 := fun k => put_heap (h.drewN k) (v := y) (i := j) hpv (by rw [H1.out]; exact hj)
      have b1 : decide ((0 : Int) < (j : Int)) = true := by simp; omega
      obtain ⟨q, eq⟩ : ∃ q, q = j - 1 := ⟨_, rfl⟩
      obtain ⟨p, ep⟩ : ∃ p, p = (j - 1) / 2 := ⟨_, rfl⟩
      have w1 : IntKind.i64.wrap ((j : Int) - 1) = (q : Int) := by rw [IntWalk.i64_in _ (by omega)]; omega
      have w2 : IntKind.i64.wrap ((q : Int) / 2) = (p : Int) := by rw [IntWalk.i64_in _ (by omega)]; omega
      have b2 : (0 : Int) ≤ (p : Int) := by omega
      have b3 : (p : Int) < (L : Int) := by omega
      rw [← ep] at d2 HY
      have EP := Lib.hid ep
      clear ep eq hpl
      cases hd : ahs s.fs x y
      · simp only [hd] at ha
        have HD := Lib.hid hd
        clear hd hp2
        go_wp2
        go_quiet ((go_at_call 64; exact Calls.quiet_of (ha _)))
        clear w1 w2
        go_wp2_with (go_at_call 67; ((with_reducible refine (hp1 _).mono ?_); rintro e w' ⟨rfl, h5, h6⟩))
        go_end0
        refine ⟨rfl, ?_, ?_⟩
        · rw [← H2.out, upL_stop (fun _ => by rw [← EP.out, ← HY.out]; exact HD.out)]; exact h5
        · exact (H4.out.then (Fr.drewN wr _) (fun _ _ e => e.elim)).then h6 (fun _ _ e => e)
      · simp only [hd] at ha
        have HD := Lib.hid hd
        clear hd hp1
        go_wp2
        go_quiet ((go_at_call 64; exact Calls.quiet_of (ha _)))
        go_wp2_with (go_at_call 67; ((with_reducible refine (hp2 _).mono ?_); rintro e w' ⟨rfl, h5, h6⟩))
        go_roundw
        case rel =>
          refine ⟨p, l'.set j y, ps'.set y (j : Int), rfl, by omega, ?_, ?_, h5, ?_⟩
          · show (l'.set j y).length = L
            rw [List.length_set]; exact H1.out
          · show upL _ _ _ _ _ = _
            rw [← H2.out, upL_go hj0 (by rw [← EP.out, ← HY.out]; exact HD.out), ← EP.out, ← HY.out]
          · exact (H4.out.then (Fr.drewN wr _) (fun _ _ e => e.elim)).then h6 (fun _ _ e => e)
        case measure => have := EP.out; simp [intOf]; omega
    · have hd : decide ((0 : Int) < (j : Int)) = false := by simp; omega
      have hp := fun k => put_heap (h.drewN k) (v := x) (i := j) hx (by rw [H1.out]; exact hj)
      go_wp2
      go_quiet (fail)
      go_wp2_with (go_at_call 67; refine (hp _).mono ?_; rintro e w' ⟨rfl, h5, h6⟩)
      go_end0
      refine ⟨rfl, ?_, ?_⟩
      · rw [← H2.out, upL_stop (fun h0 => absurd h0 hj0)]; exact h5
      · exact (H4.out.then (Fr.drewN wr _) (fun _ _ e => e.elim)).then h6 (fun _ _ e => e)
end Go.Proofs.Ytgdnehejeoiicaa
