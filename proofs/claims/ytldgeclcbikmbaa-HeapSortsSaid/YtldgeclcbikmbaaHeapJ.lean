/- Bump and Decay. -/
import Derived.Test.YtldgeclcbikmbaaHeapI
import Derived.Deep.RegionWith
set_option linter.unusedVariables false
set_option linter.unusedSimpArgs false
namespace Go.Proofs.Ytldgeclcbikmbaa
open Go.RowKit
attribute [local go_sem] run_store_float

/-- The score raised. -/
def raiseS (s : HS) (a : Nat) : HS := { s with fs := s.fs.set a (fadd (s.fs.getD a 0) s.step) }
/-- .. and moved up, if it stands there. -/
def riseS (s : HS) (a : Nat) : HS :=
  if 0 ≤ s.ps.getD a 0 then { s with l := (upL (ahs s.fs) (s.l.getD (s.ps.getD a 0).toNat 0) (s.ps.getD a 0).toNat s.l s.ps).1, ps := (upL (ahs s.fs) (s.l.getD (s.ps.getD a 0).toNat 0) (s.ps.getD a 0).toNat s.l s.ps).2 } else s
def isGreat (x : Nat) : Bool := FloatKind.f64.format.order x great == some Ordering.gt
def bumpS (s : HS) (a : Nat) : HS := if isGreat ((raiseS s a).fs.getD a 0) = true then lessS (riseS (raiseS s a) a) else riseS (raiseS s a) a
def decayS (s : HS) : HS := if isGreat (fdiv s.step fade) = true then lessS { s with step := fdiv s.step fade } else { s with step := fdiv s.step fade }

section
variable {w : World} {H V bs bp : Nat} {lv : Value} {s : HS}

set_option maxHeartbeats 800000 in
theorem decay_heap (h : HeapAt w H V bs bp lv s) (hd : FloatKind.f64.format.div s.step fade = some (fdiv s.step fade))
    (hmul : isGreat (fdiv s.step fade) = true → ∀ x ∈ s.fs, FloatKind.f64.format.mul x small = some (fmul x small)) (hms : isGreat (fdiv s.step fade) = true → FloatKind.f64.format.mul (fdiv s.step fade) small = some (fmul (fdiv s.step fade) small)) :
    Calls Try.prog 24 #[.pointer (some ⟨H, 0, none⟩)] w fun e w' => e = .returned (.tuple #[]) ∧
      ∃ lv', HeapAt w' H V bs bp lv' (decayS s) ∧ Fr (fun b => b = bs ∨ b = bp ∨ b = H) w w' ∧ (∀ b, lv'.ownBlock = some b → lv.ownBlock = some b ∨ w.heap.size ≤ b) := by
  have c5 : w.cell? ⟨H, 5, none⟩ = some (.float .f64 s.step) := h.hH.cell rfl
  have f5 := h.hH.free 5
  obtain ⟨st', est⟩ : ∃ x, x = fdiv s.step fade := ⟨_, rfl⟩
  unfold decayS
  rw [← est] at hd hmul hms ⊢
  have hst := h.stepped st'
  have hd' : ∀ (W : World), (binOp .quo 29 (.float .f64 s.step) (.float .f64 4606732058837280358)).run Try.prog W = .ok (.float .f64 st') W := fun W => run_float_arith W .quo 29 .f64 _ _ _ hd
  cases hg : isGreat st'
  · have hg' : (FloatKind.f64.format.order st' 6103021453049119613 == some Ordering.gt) = false := hg
    rw [if_neg (by simp)]
    have HST := Lib.hid hst
    clear h hd hmul hms hst est hg
    go_enter Try.func24, Try.ntmps24
    go_wp2
    go_end0
    exact ⟨rfl, lv, HST.out, (Fr.set _ _ _).mono (fun _ _ e => .inr (.inr e)), fun _ e => .inl e⟩
  · have hg' : (FloatKind.f64.format.order st' 6103021453049119613 == some Ordering.gt) = true := hg
    rw [if_pos rfl]
    have hl := lessen_heap hst (hmul hg) (hms hg)
    clear h hd hmul hms hst est hg
    go_enter Try.func24, Try.ntmps24
    go_wp2_with (go_at_call 33; ((with_reducible refine hl.mono ?_); rintro e w' ⟨rfl, lv', q1, q2, q3⟩))
    go_end0
    refine ⟨rfl, lv', q1, (Fr.set w ⟨H, 5, none⟩ (.float .f64 st')).trans q2 (fun _ _ e => .inr (.inr e)) (fun _ _ e => e), fun b e => .inr ?_⟩
    have := q3 b e
    simpa [World.setCell] using this

theorem HeapAt.place_get (h : HeapAt w H V bs bp lv s) {v : Nat} (hv : v < s.fs.length) : w.cell? ⟨bp, v, none⟩ = some (.int .i64 (s.ps.getD v 0)) :=
  h.hp.cell (by have := h.hn; rw [ivl, List.getElem?_map, List.getElem?_eq_getElem (by omega), getD_lt _ _ (by omega)]; rfl)

set_option maxHeartbeats 1600000 in
theorem bump_yes (h : HeapAt w H V bs bp lv s) {a : Nat} (ha : a < s.fs.length) (hp : 0 ≤ s.ps.getD a 0 → (s.ps.getD a 0).toNat < s.l.length)
    (hadd : FloatKind.f64.format.add (s.fs.getD a 0) s.step = some (fadd (s.fs.getD a 0) s.step))
    (hmul : isGreat ((raiseS s a).fs.getD a 0) = true → ∀ x ∈ (raiseS s a).fs, FloatKind.f64.format.mul x small = some (fmul x small)) (hms : isGreat ((raiseS s a).fs.getD a 0) = true → FloatKind.f64.format.mul s.step small = some (fmul s.step small)) :
    Calls Try.prog 21 #[.pointer (some ⟨H, 0, none⟩), .int .i64 a] w fun e w' => e = .returned (.int .i64 0) ∧
      ∃ lv', HeapAt w' H V bs bp lv' (bumpS s a) ∧ Fr (fun b => lv.ownBlock = some b ∨ b = bs ∨ b = bp ∨ b = H) w w' ∧ (∀ b, lv'.ownBlock = some b → lv.ownBlock = some b ∨ w.heap.size ≤ b) := by
  have hi := is_yes h ha
  have c3 : w.cell? ⟨H, 3, none⟩ = some (.slice (some ⟨bs, 0, none⟩) s.fs.length s.fs.length) := h.hH.cell rfl
  have c5 : w.cell? ⟨H, 5, none⟩ = some (.float .f64 s.step) := h.hH.cell rfl
  have ca := h.hs.cell (fvl_get _ ha)
  have fa := h.hs.free a
  obtain ⟨x, ex⟩ : ∃ x, x = s.fs.getD a 0 := ⟨_, rfl⟩
  obtain ⟨y, ey⟩ : ∃ y, y = fadd (s.fs.getD a 0) s.step := ⟨_, rfl⟩
  have eR : raiseS s a = { s with fs := s.fs.set a y } := by unfold raiseS; rw [← ey]
  rw [← ey, ← ex] at hadd
  rw [← ex] at ca
  have hadd' : ∀ (W : World), (binOp .add 29 (.float .f64 x) (.float .f64 s.step)).run Try.prog W = .ok (.float .f64 y) W := fun W => run_float_arith W .add 29 .f64 _ _ _ hadd
  have hsc := h.score a y
  rw [← eR] at hsc
  obtain ⟨r, er⟩ : ∃ r, r = raiseS s a := ⟨_, rfl⟩
  have hra : a < r.fs.length := by rw [er]; unfold raiseS; simpa using ha
  have hry : r.fs.getD a 0 = y := by rw [er, eR]; simp only; rw [getD_lt _ _ (by rw [List.length_set]; exact ha)]; simp
  have hrl : r.l = s.l := by rw [er]; rfl
  have hrp : r.ps = s.ps := by rw [er]; rfl
  have hrs : r.step = s.step := by rw [er]; rfl
  have hrn : r.fs.length = s.fs.length := by rw [er]; unfold raiseS; simp
  have hbump : bumpS s a = if isGreat y = true then lessS (riseS r a) else riseS r a := by unfold bumpS; rw [← er, hry]
  have HBUMP := Lib.hid hbump
  rw [← er, hry] at hmul hms
  rw [← er] at hsc
  rw [← hrl, ← hrp] at hp
  rw [← hrs] at hms
  have HSC := Lib.hid hsc
  have g1 : (0 : Int) ≤ (a : Int) := by omega
  have g2 : (a : Int) < (s.fs.length : Int) := by omega
  have HP := Lib.hid hp
  have HMUL := Lib.hid hmul
  have HMS := Lib.hid hms
  have HRN := Lib.hid hrn
  have HRY := Lib.hid hry
  obtain ⟨n, en⟩ : ∃ n, n = s.fs.length := ⟨_, rfl⟩
  rw [← en] at HRN c3 g2
  clear hsc ex ey eR hadd h er hrl hrp hrs hrn hp hmul hms hry en ha hbump
  go_enter Try.func21, Try.ntmps21
  go_wp2_with (go_at_call 29; ((with_reducible refine hi.mono ?_); rintro e w' ⟨rfl, rfl⟩))
  go_region
  obtain ⟨W, eW⟩ : ∃ W, W = (w.setCell ⟨bs, a, none⟩ (.float .f64 y)).drew := ⟨_, rfl⟩
  have hW : HeapAt W H V bs bp lv r := by rw [eW]; exact HSC.out.drewN 1
  have hFW : Fr (fun b => b = bs) w W := by rw [eW]; exact (Fr.set w ⟨bs, a, none⟩ (.float .f64 y)).then (Fr.drew _) (fun _ _ e => e.elim)
  rw [← eW]
  have har : a < r.fs.length := by rw [HRN.out]; omega
  have d3 : W.cell? ⟨H, 3, none⟩ = some (.slice (some ⟨bs, 0, none⟩) n n) := by have := hW.hH.cell (i := 3) rfl; rw [HRN.out] at this; exact this
  have d4 : W.cell? ⟨H, 4, none⟩ = some (.slice (some ⟨bp, 0, none⟩) n n) := by have := hW.hH.cell (i := 4) rfl; rw [HRN.out] at this; exact this
  have dy : W.cell? ⟨bs, a, none⟩ = some (.float .f64 y) := by rw [← HRY.out]; exact hW.hs.cell (fvl_get _ har)
  have dp := hW.place_get har
  obtain ⟨q, eq⟩ : ∃ q, q = r.ps.getD a 0 := ⟨_, rfl⟩
  have HW := Lib.hid hW
  have HFW := Lib.hid hFW
  have HQ := Lib.hid eq
  rw [← eq] at dp
  clear c3 c5 ca fa hi hadd' eW hW hFW HSC
  by_cases hq0 : 0 ≤ q
  · have hh := has_yes HW.out har (by rw [← HQ.out]; exact hq0)
    obtain ⟨p, rfl⟩ : ∃ p : Nat, q = p := ⟨q.toNat, by omega⟩
    have hpl : p < r.l.length := by have := HP.out (by rw [← HQ.out]; exact hq0); rw [← HQ.out] at this; simpa using this
    have hW1 : HeapAt W.drew H V bs bp lv r := HW.out.drewN 1
    have hup := up_heap hW1 (i := p) hpl
    have eS : riseS r a = { r with l := (upL (ahs r.fs) (r.l.getD p 0) p r.l r.ps).1, ps := (upL (ahs r.fs) (r.l.getD p 0) p r.l r.ps).2 } := by
      unfold riseS
      rw [← HQ.out, if_pos hq0]
      simp
    rw [← eS] at hup
    have hrf : (riseS r a).fs = r.fs ∧ (riseS r a).step = r.step := by rw [eS]; exact ⟨rfl, rfl⟩
    have HRF := Lib.hid hrf
    clear eq eS hW1 hrf
    go_wp2_with (go_at_call 19; ((with_reducible refine hh.mono ?_); rintro e w' ⟨rfl, rfl⟩))
    go_region_with (go_at_call 32; ((with_reducible refine hup.mono ?_); rintro e w2 ⟨rfl, q1, q2⟩))
    have k3 : w2.cell? ⟨H, 3, none⟩ = some (.slice (some ⟨bs, 0, none⟩) n n) := by have := q1.hH.cell (i := 3) rfl; rw [HRF.out.1, HRN.out] at this; exact this
    have ky : w2.cell? ⟨bs, a, none⟩ = some (.float .f64 y) := by
      have := q1.hs.cell (fvl_get _ (i := a) (by rw [HRF.out.1]; exact har))
      rw [HRF.out.1, HRY.out] at this
      exact this
    have hF2 : Fr (fun b => lv.ownBlock = some b ∨ b = bs ∨ b = bp ∨ b = H) w w2 := by
      refine ((HFW.out.mono (fun _ _ e => .inr (.inl e))).then (Fr.drew W) (fun _ _ e => e.elim)).then q2 (fun b _ e => ?_)
      rcases e with e | e
      · exact .inl e
      · exact .inr (.inr (.inl e))
    have Q1 := Lib.hid q1
    have F2 := Lib.hid hF2
    clear q1 q2 hF2 d3 d4 dy dp hh
    cases hg : isGreat y
    · have hg' : (FloatKind.f64.format.order y 6103021453049119613 == some Ordering.gt) = false := hg
      have HG := Lib.hid hg
      clear hg
      go_wp2
      go_ret
      refine ⟨rfl, lv, ?_, F2.out, fun _ e => .inl e⟩
      rw [HBUMP.out, HG.out, if_neg (by simp)]
      exact Q1.out
    · have hg' : (FloatKind.f64.format.order y 6103021453049119613 == some Ordering.gt) = true := hg
      have hl := lessen_heap Q1.out (by rw [HRF.out.1]; exact HMUL.out hg) (by rw [HRF.out.2]; exact HMS.out hg)
      have HG := Lib.hid hg
      clear hg
      go_wp2_with (go_at_call 33; ((with_reducible refine hl.mono ?_); rintro e w' ⟨rfl, lv', q1, q2, q3⟩))
      go_ret
      refine ⟨rfl, lv', ?_, F2.out.then q2 (fun _ _ e => .inr e), fun b e => .inr ?_⟩
      · rw [HBUMP.out, HG.out, if_pos rfl]
        exact q1
      · have := q3 b e
        have := F2.out.size
        omega
  · have hh := has_not HW.out har (by rw [← HQ.out]; omega)
    have eS : riseS r a = r := by unfold riseS; rw [← HQ.out, if_neg hq0]
    have ES := Lib.hid eS
    clear eq eS
    cases hg : isGreat y
    · have hg' : (FloatKind.f64.format.order y 6103021453049119613 == some Ordering.gt) = false := hg
      have HG := Lib.hid hg
      clear hg
      go_wp2_with (go_at_call 19; ((with_reducible refine hh.mono ?_); rintro e w' ⟨rfl, rfl⟩))
      go_ret
      refine ⟨rfl, lv, ?_, HFW.out.mono (fun _ _ e => .inr (.inl e)), fun _ e => .inl e⟩
      rw [HBUMP.out, HG.out, if_neg (by simp), ES.out]
      exact HW.out
    · have hg' : (FloatKind.f64.format.order y 6103021453049119613 == some Ordering.gt) = true := hg
      have hl := lessen_heap HW.out (HMUL.out hg) (HMS.out hg)
      have HG := Lib.hid hg
      clear hg
      go_wp2_with (first
        | (go_at_call 19; ((with_reducible refine hh.mono ?_); rintro e w' ⟨rfl, rfl⟩))
        | (go_at_call 33; ((with_reducible refine hl.mono ?_); rintro e w' ⟨rfl, lv', q1, q2, q3⟩)))
      go_ret
      refine ⟨rfl, lv', ?_, (HFW.out.mono (fun _ _ e => .inr (.inl e))).then q2 (fun _ _ e => .inr e), fun b e => .inr ?_⟩
      · rw [HBUMP.out, HG.out, if_pos rfl, ES.out]
        exact q1
      · have := q3 b e
        have := HFW.out.size
        omega
end
end Go.Proofs.Ytldgeclcbikmbaa
