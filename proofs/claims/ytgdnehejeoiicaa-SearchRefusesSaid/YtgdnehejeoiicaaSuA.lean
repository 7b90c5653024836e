/- Numbers in memory, a copy of a clause. -/
import Derived.Test.YtgdnehejeoiicaaHeapL
import Derived.Lib.SliceRun
set_option linter.unusedVariables false
set_option linter.unusedSimpArgs false
namespace Go.Proofs.Ytgdnehejeoiicaa
open Go.RowKit

/-- A slice of numbers that came in. -/
def RdC (w : World) (v : Value) (xs : List Int) : Prop :=
  ∃ ao cap, v = .slice ao xs.length cap ∧ xs.length * 8 ≤ 140737488351232 ∧ (ao = none → xs.length = 0 ∧ cap = 0) ∧ ∀ a, ao = some a → (0 < xs.length → a.spot = none) ∧ ∀ j, j < xs.length → w.cell? ⟨a.block, a.off + j, none⟩ = some (.int .i64 (xs.getD j 0))
theorem RdC.keep {S : Nat → Prop} {w w' : World} {v : Value} {xs : List Int} (h : RdC w v xs) (k : Fr S w w') (hS : ∀ a n c, v = .slice (some a) n c → 0 < n → ¬ S a.block) : RdC w' v xs := by
  obtain ⟨ao, cap, rfl, h0, h1, hc⟩ := h
  exact ⟨ao, cap, rfl, h0, h1, fun a ha => ⟨(hc a ha).1, fun j hj => k.cell (p := ⟨a.block, a.off + j, none⟩) (hS a _ _ (by rw [ha]) (by omega)) ((hc a ha).2 j hj)⟩⟩
theorem ivl_len (xs : List Int) : (ivl xs).length = xs.length := by simp [ivl]
theorem ivl_get (xs : List Int) {j : Nat} (hj : j < xs.length) : (ivl xs)[j]? = some (.int .i64 (xs.getD j 0)) := by
  rw [ivl, List.getElem?_map, List.getElem?_eq_getElem hj, getD_lt _ _ hj]; rfl
theorem rdC_owns {w : World} {base : Nat} {v : Value} {xs : List Int} (h : w.ownsRow base 3 1 v xs.length (ivl xs)) (hb : xs.length * 8 ≤ 140737488351232) : RdC w v xs := by
  rcases owns_blk h with ⟨rfl, h0, _⟩ | ⟨g, cap, more, rfl, _, hb', _⟩
  · exact ⟨none, 0, by rw [h0], hb, fun _ => ⟨h0, rfl⟩, fun a ha => by cases ha⟩
  · refine ⟨some ⟨g, 0, none⟩, cap, rfl, hb, (fun e => by cases e), fun a ha => ?_⟩
    cases ha
    refine ⟨fun _ => rfl, fun j hj => ?_⟩
    simp only [Nat.zero_add]
    exact hb'.cell (by rw [List.getElem?_append_left (by rw [ivl_len]; exact hj), ivl_get _ hj])

def ClonePost (w : World) (v : Value) (xs : List Int) (e : Ending) (w' : World) : Prop := ∃ v', e = .returned v' ∧ w'.ownsRow w.heap.size 3 1 v' xs.length (ivl xs) ∧ Fr (fun _ => False) w w' ∧ (v' = .slice none 0 0 ↔ v = .slice none 0 0)

theorem und_clause : Try.prog.underlying 23 = some (.slice 3) := by kernel_rfl

set_option maxHeartbeats 800000 in
set_option maxRecDepth 20000 in
theorem clone_ok {w : World} {v : Value} {xs : List Int} (h : RdC w v xs) : Calls Try.prog 24 #[v] w (ClonePost w v xs) := by
  obtain ⟨i0, hi, hz0, hz1, hz2⟩ := info_parts info_int
  have q23 : ∀ (w : World) (a : Option Addr) (n c n' c' : Nat), (binOp .eql 23 (.slice a n c) (.slice none n' c')).run Try.prog w = .ok (.bool a.isNone) w := fun w a n c n' c' => Lib.run_eql_slice_nil w _ _ a n c n' c' und_clause
  obtain ⟨ao, cap, rfl, hb, h0, hc⟩ := h
  cases ao with
  | none =>
    obtain ⟨e1, e2⟩ := h0 rfl
    rw [e1, e2]
    have HX := Lib.hid e1
    clear hc h0 e1 hb
    go_enter Try.func24, Try.ntmps24
    go_wp2
    go_ret
    refine ⟨_, rfl, ?_, Fr.refl _ _, by simp⟩
    rw [HX.out, List.eq_nil_of_length_eq_zero HX.out]
    exact ⟨rfl, .inl ⟨rfl, rfl⟩⟩
  | some a =>
    obtain ⟨hs, hcell⟩ := hc a rfl
    have hown0 : (w.alloc (.cells #[] 3)).ownsRow w.heap.size 3 1 (.slice (some ⟨w.heap.size, 0, none⟩) 0 0) 0 [] := blk_owns (xs := []) (more := []) (Nat.le_refl _) (Blk.new' rfl) (by omega) (by unfold maxLen; omega) rfl rfl
    have hnews : ∀ j u, (ivl xs)[j]? = some u → (w.alloc (.cells #[] 3)).cell? (a.add j) = some u := by
      intro j u hu
      have hj : j < xs.length := by
        have := (List.getElem?_eq_some_iff.1 hu).1
        rwa [ivl_len] at this
      rw [ivl_get _ hj] at hu
      simp only [Option.some.injEq] at hu
      have h1 := (Fr.alloc w (.cells #[] 3)).cell (p := ⟨a.block, a.off + j, none⟩) (fun e => e) (hcell j hj)
      have h2 := hs (by omega)
      obtain ⟨g, off, spot⟩ := a
      simp only at h2
      subst h2
      rw [Go.WideShapes.add_plain, ← hu]
      exact h1
    have hone : ∀ u ∈ ivl xs, u.oneCell' = true := by
      intro u hu
      unfold ivl at hu
      obtain ⟨x, _, rfl⟩ := List.mem_map.1 hu
      rfl
    have hlen : (ivl xs).length = xs.length * 1 := by rw [ivl_len]; omega
    have hb0 : w.heap.size ≤ (w.alloc (.cells #[] 3)).heap.size := by simp
    obtain ⟨n, en⟩ : ∃ n, n = xs.length := ⟨_, rfl⟩
    obtain ⟨news, enw⟩ : ∃ news, news = ivl xs := ⟨_, rfl⟩
    rw [← en, ← enw] at hlen
    rw [← enw] at hone hnews
    rw [← en] at hb ⊢
    have HEN := Lib.hid en
    have HEW := Lib.hid enw
    clear hcell hc h0 hs en enw
    go_enter Try.func24, Try.ntmps24
    go_wp2_with (first
      | (at_builtin; go_loud (refine wpList_append_own_at _ rfl (.tmp 5) (.tmp 6) 23 rfl w.heap.size 3 i0 (.int .i64 0) 1 8 und_clause hi hz0 hz1 hz2 rfl (by decide) (.slice (some ⟨w.heap.size, 0, none⟩) 0 0) 0 [] rfl hown0 a n cap news rfl hlen hnews hone (by unfold maxLen; omega) (by omega) hb0 ?_); intro v' w1 hown1 hg1 hnil1 hat1))
    go_ret
    refine ⟨v', rfl, ?_, ?_, ?_⟩
    · rw [← HEW.out, ← HEN.out]
      simpa using hown1
    · exact ((Fr.alloc w _).then (Fr.of_grown hg1) (fun b hb e => by simp [Value.ownBlock] at e; omega))
    · rw [hnil1]; simp
end Go.Proofs.Ytgdnehejeoiicaa
