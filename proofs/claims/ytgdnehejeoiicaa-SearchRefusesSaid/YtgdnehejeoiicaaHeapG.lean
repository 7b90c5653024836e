/- Push, Has and the test of a number. -/
import Derived.Test.YtgdnehejeoiicaaHeapE
set_option linter.unusedVariables false
set_option linter.unusedSimpArgs false
namespace Go.Proofs.Ytgdnehejeoiicaa
open Go.RowKit

section
variable {w : World} {H V bs bp : Nat} {lv : Value} {s : HS}

theorem HeapAt.form (h : HeapAt w H V bs bp lv s) : ∃ ao cap, lv = .slice ao s.l.length cap := by
  rcases owns_blk h.hl with ⟨rfl, h0, _⟩ | ⟨g, cap, more, rfl, _⟩
  · exact ⟨none, 0, by rw [h0]⟩
  · exact ⟨_, cap, rfl⟩

set_option maxHeartbeats 400000 in
theorem is_yes (h : HeapAt w H V bs bp lv s) {v : Nat} (hv : v < s.fs.length) :
    Calls Try.prog 58 #[.pointer (some ⟨H, 0, none⟩), .int .i64 v] w fun e w' => e = .returned (.bool true) ∧ w = w' := by
  have c3 : w.cell? ⟨H, 3, none⟩ = some (.slice (some ⟨bs, 0, none⟩) s.fs.length s.fs.length) := h.hH.cell rfl
  have g1 : decide ((0 : Int) ≤ (v : Int)) = true := by simp
  have g2 : decide ((v : Int) < (s.fs.length : Int)) = true := by simpa using hv
  clear h
  go_enter Try.func58, Try.ntmps58
  go_wp2
  go_ret
  exact ⟨rfl, rfl⟩
set_option maxHeartbeats 400000 in
theorem is_no (h : HeapAt w H V bs bp lv s) {v : Int} (hv : v < 0 ∨ (s.fs.length : Int) ≤ v) :
    Calls Try.prog 58 #[.pointer (some ⟨H, 0, none⟩), .int .i64 v] w fun e w' => e = .returned (.bool false) ∧ w = w' := by
  have c3 : w.cell? ⟨H, 3, none⟩ = some (.slice (some ⟨bs, 0, none⟩) s.fs.length s.fs.length) := h.hH.cell rfl
  clear h
  by_cases h0 : v < 0
  · have g1 : decide ((0 : Int) ≤ v) = false := by simp; omega
    go_enter Try.func58, Try.ntmps58
    go_wp2
    go_ret
    exact ⟨rfl, rfl⟩
  · have g1 : decide ((0 : Int) ≤ v) = true := by simp; omega
    have g2 : decide (v < (s.fs.length : Int)) = false := by simp; omega
    clear hv h0
    go_enter Try.func58, Try.ntmps58
    go_wp2
    go_ret
    exact ⟨rfl, rfl⟩

set_option maxHeartbeats 400000 in
theorem has_yes (h : HeapAt w H V bs bp lv s) {v : Nat} (hv : v < s.fs.length) (hp : 0 ≤ s.ps.getD v 0) :
    Calls Try.prog 59 #[.pointer (some ⟨H, 0, none⟩), .int .i64 v] w fun e w' => e = .returned (.bool true) ∧ w = w' := by
  have hi := is_yes h hv
  have c4 : w.cell? ⟨H, 4, none⟩ = some (.slice (some ⟨bp, 0, none⟩) s.fs.length s.fs.length) := h.hH.cell rfl
  have cp : w.cell? ⟨bp, v, none⟩ = some (.int .i64 (s.ps.getD v 0)) := h.hp.cell (by have := h.hn; rw [ivl, List.getElem?_map, List.getElem?_eq_getElem (by omega), getD_lt _ _ (by omega)]; rfl)
  obtain ⟨q, eq⟩ : ∃ q, q = s.ps.getD v 0 := ⟨_, rfl⟩
  rw [← eq] at cp hp
  have g1 : (0 : Int) ≤ (v : Int) := by omega
  have g2 : (v : Int) < (s.fs.length : Int) := by omega
  clear h eq
  go_enter Try.func59, Try.ntmps59
  go_wp2_with (go_at_call 58; ((with_reducible refine hi.mono ?_); rintro e w' ⟨rfl, rfl⟩))
  go_ret
  exact ⟨rfl, rfl⟩
set_option maxHeartbeats 400000 in
theorem has_not (h : HeapAt w H V bs bp lv s) {v : Nat} (hv : v < s.fs.length) (hp : s.ps.getD v 0 < 0) :
    Calls Try.prog 59 #[.pointer (some ⟨H, 0, none⟩), .int .i64 v] w fun e w' => e = .returned (.bool false) ∧ w = w' := by
  have hi := is_yes h hv
  have c4 : w.cell? ⟨H, 4, none⟩ = some (.slice (some ⟨bp, 0, none⟩) s.fs.length s.fs.length) := h.hH.cell rfl
  have cp : w.cell? ⟨bp, v, none⟩ = some (.int .i64 (s.ps.getD v 0)) := h.hp.cell (by have := h.hn; rw [ivl, List.getElem?_map, List.getElem?_eq_getElem (by omega), getD_lt _ _ (by omega)]; rfl)
  obtain ⟨q, eq⟩ : ∃ q, q = s.ps.getD v 0 := ⟨_, rfl⟩
  rw [← eq] at cp hp
  have g1 : (0 : Int) ≤ (v : Int) := by omega
  have g2 : (v : Int) < (s.fs.length : Int) := by omega
  have g3 : decide ((0 : Int) ≤ q) = false := by simp; omega
  clear h eq
  go_enter Try.func59, Try.ntmps59
  go_wp2_with (go_at_call 58; ((with_reducible refine hi.mono ?_); rintro e w' ⟨rfl, rfl⟩))
  go_ret
  exact ⟨rfl, rfl⟩

/-- Push of any number. -/
def isIn (s : HS) (v : Int) : Prop := 0 ≤ v ∧ v < s.fs.length
instance (s : HS) (v : Int) : Decidable (isIn s v) := by unfold isIn; infer_instance
def pushX (s : HS) (v : Int) : HS := if isIn s v ∧ s.ps.getD v.toNat 0 < 0 then pushS s v.toNat else s
def pushE (s : HS) (v : Int) : Int := if isIn s v then (if s.ps.getD v.toNat 0 < 0 then 0 else 190) else 61

set_option maxHeartbeats 800000 in
theorem push_heap (h : HeapAt w H V bs bp lv s) (v : Int) (hL : isIn s v → s.ps.getD v.toNat 0 < 0 → s.l.length < 1048576) :
    Calls Try.prog 45 #[.pointer (some ⟨H, 0, none⟩), .int .i64 v] w fun e w' => e = .returned (.int .i64 (pushE s v)) ∧
      ∃ lv', HeapAt w' H V bs bp lv' (pushX s v) ∧ Fr (fun b => lv.ownBlock = some b ∨ b = bp ∨ b = H) w w' ∧ (∀ b, lv'.ownBlock = some b → lv.ownBlock = some b ∨ w.heap.size ≤ b) := by
  by_cases hv : isIn s v
  · obtain ⟨h0, h1⟩ := hv
    obtain ⟨x, rfl⟩ : ∃ x : Nat, v = x := ⟨v.toNat, by omega⟩
    have hx : x < s.fs.length := by omega
    have hi := is_yes h hx
    by_cases hp : s.ps.getD x 0 < 0
    · have e1 : pushX s x = pushS s x := by unfold pushX; rw [if_pos ⟨⟨h0, h1⟩, by simpa using hp⟩]; simp
      have e2 : pushE s x = 0 := by unfold pushE; rw [if_pos ⟨h0, h1⟩, if_pos (by simpa using hp)]
      rw [e1, e2]
      have hh := has_not h hx hp
      have hq := qpush_heap h hx (hL ⟨h0, h1⟩ (by simpa using hp))
      clear h hp hL e1 e2
      go_enter Try.func45, Try.ntmps45
      go_wp2_with (first
        | (go_at_call 58; ((with_reducible refine hi.mono ?_); rintro e w' ⟨rfl, rfl⟩))
        | (go_at_call 59; ((with_reducible refine hh.mono ?_); rintro e w' ⟨rfl, rfl⟩))
        | (go_at_call 60; ((with_reducible refine hq.mono ?_); rintro e w' ⟨rfl, hq'⟩)))
      go_ret
      exact ⟨rfl, hq'⟩
    · have e1 : pushX s x = s := by unfold pushX; rw [if_neg (fun c => hp (by simpa using c.2))]
      have e2 : pushE s x = 190 := by unfold pushE; rw [if_pos ⟨h0, h1⟩, if_neg (by simpa using hp)]
      rw [e1, e2]
      have hh := has_yes h hx (by omega)
      have hl : lv.ownBlock = lv.ownBlock := rfl
      have HH := Lib.hid h
      clear h hp hL e1 e2 hl
      go_enter Try.func45, Try.ntmps45
      go_wp2_with (first
        | (go_at_call 58; ((with_reducible refine hi.mono ?_); rintro e w' ⟨rfl, rfl⟩))
        | (go_at_call 59; ((with_reducible refine hh.mono ?_); rintro e w' ⟨rfl, rfl⟩)))
      go_ret
      exact ⟨rfl, lv, HH.out, Fr.refl _ _, fun b e => .inl e⟩
  · have e1 : pushX s v = s := by unfold pushX; rw [if_neg (fun c => hv c.1)]
    have e2 : pushE s v = 61 := by unfold pushE; rw [if_neg hv]
    rw [e1, e2]
    have hi := is_no h (v := v) (by unfold isIn at hv; omega)
    have HH := Lib.hid h
    clear h hv hL e1 e2
    go_enter Try.func45, Try.ntmps45
    go_wp2_with (go_at_call 58; ((with_reducible refine hi.mono ?_); rintro e w' ⟨rfl, rfl⟩))
    go_ret
    exact ⟨rfl, lv, HH.out, Fr.refl _ _, fun b e => .inl e⟩
end
end Go.Proofs.Ytgdnehejeoiicaa
