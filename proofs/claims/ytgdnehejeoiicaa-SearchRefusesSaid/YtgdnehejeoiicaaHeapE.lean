/- push of the inner queue. -/
import Derived.Test.YtgdnehejeoiicaaHeapC
set_option linter.unusedVariables false
set_option linter.unusedSimpArgs false
namespace Go.Proofs.Ytgdnehejeoiicaa
open Go.RowKit

theorem info_int : (Try.prog.info? 3).map (fun i => (i.zero, i.size, i.bytes)) = some (some (.int .i64 0), 1, 8) := by kernel_rfl
theorem und_ints : Try.prog.underlying 22 = some (.slice 3) := by kernel_rfl

/-- A row that has grown is written into the heap's field. -/
theorem HeapAt.grown {w w1 : World} {H V bs bp : Nat} {lv v' : Value} {s : HS} (h : HeapAt w H V bs bp lv s) {x : Nat} (hx : x < s.fs.length) (hL : s.l.length < 1048576) {o : Obj}
    (hown : w1.ownsRow 0 3 1 v' (s.l.length + 1) (nvl s.l ++ [iv x])) (hg : (w.alloc o).grownBy w1 lv.ownBlock) (hat : v'.ownBlock = lv.ownBlock ∨ v'.ownBlock = some (w.alloc o).heap.size) :
    HeapAt (w1.setCell ⟨H, 0, none⟩ v') H V bs bp v' { s with l := s.l ++ [x] } ∧ Fr (fun b => lv.ownBlock = some b ∨ b = H) w (w1.setCell ⟨H, 0, none⟩ v') ∧ (∀ b, v'.ownBlock = some b → lv.ownBlock = some b ∨ w.heap.size ≤ b) := by
  have k0 : Fr (fun b => lv.ownBlock = some b) w w1 := (Fr.alloc w o).trans (Fr.of_grown hg) (fun _ _ e => e.elim) (fun _ _ e => e.symm)
  have k1 := Fr.set w1 ⟨H, 0, none⟩ v'
  have hrow : ∀ b cs T, Blk w b cs T → T ≠ 3 → lv.ownBlock ≠ some b := by
    intro b cs T hb hT e
    rcases owns_blk h.hl with ⟨rfl, _, _⟩ | ⟨g, cap, more, rfl, _, hgb, _⟩
    · simp [Value.ownBlock] at e
    · simp only [Value.ownBlock, Option.some.injEq] at e
      subst e
      exact hT (hb.inj hgb).2
  have bH := h.hH.keep k0 (hrow _ _ _ h.hH (by decide))
  have bV := h.hV.keep k0 (hrow _ _ _ h.hV (by decide))
  have bS := h.hs.keep k0 (hrow _ _ _ h.hs (by decide))
  have bP := h.hp.keep k0 h.hlp
  have hn : ∀ b, v'.ownBlock = some b → lv.ownBlock = some b ∨ w.heap.size ≤ b := by
    intro b hb
    rcases hat with e | e
    · exact .inl (by rw [← e]; exact hb)
    · rw [e] at hb
      simp only [Option.some.injEq] at hb
      exact .inr (by rw [← hb]; simp)
  have hlp' : v'.ownBlock ≠ some bp := fun e => by
    rcases hn bp e with e | e
    · exact h.hlp e
    · have := h.hp.lt; omega
  have hvH : v'.ownBlock ≠ some H := fun e => by
    rcases hn H e with e | e
    · exact hrow _ _ _ h.hH (by decide) e
    · have := h.hH.lt; omega
  refine ⟨?_, ?_, hn⟩
  · constructor
    · exact bH.set 0 v'
    · exact bV.keep k1 (by simpa using h.hV.ne h.hH (by decide))
    · exact bS.keep k1 (by simpa using h.hs.ne h.hH (by decide))
    · exact bP.keep k1 (by simpa using h.hp.ne h.hH (by decide))
    · have := k1.owns hown (fun g hg e => hvH (by rw [hg]; exact congrArg some e))
      simpa [nvl] using this
    · exact hlp'
    · exact h.hn
    · exact h.hm
    · intro v hv
      rcases List.mem_append.1 hv with hv | hv
      · exact h.hv v hv
      · simp at hv; subst hv; exact hx
    · simp; omega
  · exact k0.trans k1 (fun _ _ e => .inl e) (fun _ _ e => .inr e)

theorem HeapAt.grown0 {w w1 : World} {H V bs bp : Nat} {lv : Value} {s : HS} (h : HeapAt w H V bs bp lv s) {o : Obj} (hg : (w.alloc o).grownBy w1 lv.ownBlock) :
    w1.cell? ⟨H, 0, none⟩ = some lv ∧ w1.frozen? ⟨H, 0, none⟩ = false := by
  have k0 : Fr (fun b => lv.ownBlock = some b) w w1 := (Fr.alloc w o).trans (Fr.of_grown hg) (fun _ _ e => e.elim) (fun _ _ e => e.symm)
  have hrow : lv.ownBlock ≠ some H := by
    intro e
    rcases owns_blk h.hl with ⟨rfl, _, _⟩ | ⟨g, cap, more, rfl, _, hgb, _⟩
    · simp [Value.ownBlock] at e
    · simp only [Value.ownBlock, Option.some.injEq] at e
      subst e
      exact (by decide : 108 ≠ 3) (h.hH.inj hgb).2
  have bH := h.hH.keep k0 hrow
  exact ⟨bH.cell rfl, bH.free 0⟩
theorem owns_shape {w : World} {base : Nat} {e : TypeId} {size n : Nat} {v : Value} {xs : List Value} (h : w.ownsRow base e size v n xs) (hn : 0 < n) : ∃ g cap, v = .slice (some ⟨g, 0, none⟩) n cap := by
  rcases owns_blk h with ⟨_, h0, _⟩ | ⟨g, cap, more, rfl, _⟩
  · omega
  · exact ⟨g, cap, rfl⟩

/-- What push leaves. -/
def pushS (s : HS) (x : Nat) : HS := { s with l := (upL (ahs s.fs) x s.l.length (s.l ++ [x]) s.ps).1, ps := (upL (ahs s.fs) x s.l.length (s.l ++ [x]) s.ps).2 }

set_option maxHeartbeats 800000 in
theorem qpush_heap {w : World} {H V bs bp : Nat} {lv : Value} {s : HS} (h : HeapAt w H V bs bp lv s) {x : Nat} (hx : x < s.fs.length) (hL : s.l.length < 1048576) :
    Calls Try.prog 60 #[.pointer (some ⟨H, 0, none⟩), .int .i64 x] w fun e w' => e = .returned (.tuple #[]) ∧
      ∃ lv', HeapAt w' H V bs bp lv' (pushS s x) ∧ Fr (fun b => lv.ownBlock = some b ∨ b = bp ∨ b = H) w w' ∧ (∀ b, lv'.ownBlock = some b → lv.ownBlock = some b ∨ w.heap.size ≤ b) := by
  obtain ⟨i0, hi, hz0, hz1, hz2⟩ := info_parts info_int
  have c0 : w.cell? ⟨H, 0, none⟩ = some lv := h.hH.cell rfl
  have hform : ∃ ao cap, lv = .slice ao s.l.length cap := by
    rcases owns_blk h.hl with ⟨rfl, h0, _⟩ | ⟨g, cap, more, rfl, _⟩
    · exact ⟨none, 0, by rw [h0]⟩
    · exact ⟨_, cap, rfl⟩
  obtain ⟨ao, cap, rfl⟩ := hform
  have hown0 := (Fr.alloc w (.cells #[iv x] 3)).owns h.hl (fun _ _ e => e)
  have hsz : s.l.length * 8 ≤ 140737488351232 := by omega
  obtain ⟨L, eL⟩ : ∃ L, L = s.l.length := ⟨_, rfl⟩
  obtain ⟨cells, ec⟩ : ∃ cells, cells = nvl s.l := ⟨_, rfl⟩
  rw [← eL, ← ec] at hown0
  rw [← eL] at hsz c0 hL
  have HH := Lib.hid h
  have HL := Lib.hid eL
  have HC := Lib.hid ec
  rw [← eL] at HH ⊢
  clear h eL ec
  have hb0 := fun (W : World) => Nat.zero_le W.heap.size
  go_enter Try.func60, Try.ntmps60
  go_wp2_with (first
    | (at_builtin; go_loud (refine wpList_append_own_at _ rfl (.tmp 8) (.tmp 10) 22 rfl 0 3 i0 (.int .i64 0) 1 8 und_ints hi hz0 hz1 hz2 rfl (by decide) _ L cells rfl hown0 ⟨w.heap.size, 0, none⟩ 1 1 [iv x] rfl rfl (cell_one_new _ _ _) (by simp [iv, Value.oneCell']) (by unfold maxLen; omega) (by omega) (hb0 _) ?_); intro v' w1 hown1 hg1 hnil1 hat1; obtain ⟨g', cap', hv'⟩ := owns_shape hown1 (by omega); obtain ⟨d0, d1⟩ := HH.out.grown0 hg1; rw [hv']))
  have R := HH.out.grown hx (by rw [← HL.out]; exact hL) (by rw [← HL.out, ← HC.out]; exact hown1) hg1 hat1
  rw [hv'] at R
  obtain ⟨R1, R2, R3⟩ := R
  have hup := up_heap R1 (i := L) (by simp; rw [← HL.out]; omega)
  refine hup.mono ?_
  rintro e w' ⟨rfl, h5, h6⟩
  go_wp2
  go_end0
  refine ⟨rfl, .slice (some ⟨g', 0, none⟩) (L + 1) cap', ?_, ?_, R3⟩
  · have ex : (s.l ++ [x]).getD L 0 = x := by rw [HL.out]; simp [List.getD]
    rw [ex] at h5
    unfold pushS
    rw [← HL.out]
    exact h5
  · refine R2.trans h6 (fun b _ e => ?_) (fun b hb e => ?_)
    · rcases e with e | e
      · exact .inl e
      · exact .inr (.inr e)
    · rcases e with e | e
      · rcases R3 b e with e | e
        · exact .inl e
        · omega
      · exact .inr (.inl e)
end Go.Proofs.Ytgdnehejeoiicaa
