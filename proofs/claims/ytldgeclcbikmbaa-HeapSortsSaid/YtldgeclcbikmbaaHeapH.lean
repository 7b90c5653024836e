/- Words of floats: sum, product, quotient, order; a store of a float. -/
import Derived.Test.YtldgeclcbikmbaaHeapG
import Derived.Laws.FloatArith
import Derived.Laws.EntriesVeiled
set_option linter.unusedVariables false
set_option linter.unusedSimpArgs false
namespace Go.Proofs.Ytldgeclcbikmbaa
open Go.RowKit

def fadd (x y : Nat) : Nat := (FloatKind.f64.format.add x y).getD 0
def fmul (x y : Nat) : Nat := (FloatKind.f64.format.mul x y).getD 0
def fdiv (x y : Nat) : Nat := (FloatKind.f64.format.div x y).getD 0
def small : Nat := 3110860544497550640
def great : Nat := 6103021453049119613
def fade : Nat := 4606732058837280358

theorem run_store_float {P : Program} {w : World} {a : Addr} {m : Mode} (k : FloatKind) (b : Nat) : (store a (.float k b) m).run P w = stored P w a (.float k b) m := run_store P w a _ m rfl

section
variable {w : World} {H V bs bp : Nat} {lv : Value} {s : HS}

theorem HeapAt.score (h : HeapAt w H V bs bp lv s) (i x : Nat) : HeapAt (w.setCell ⟨bs, i, none⟩ (.float .f64 x)) H V bs bp lv { s with fs := s.fs.set i x } := by
  have k1 := Fr.set w ⟨bs, i, none⟩ (.float .f64 x)
  have hl : lv.ownBlock ≠ some bs := by
    intro e
    rcases owns_blk h.hl with ⟨rfl, _, _⟩ | ⟨g, cap, more, rfl, _, hgb, _⟩
    · simp [Value.ownBlock] at e
    · simp only [Value.ownBlock, Option.some.injEq] at e
      subst e
      exact (by decide : 29 ≠ 3) (h.hs.inj hgb).2
  constructor
  · have := h.hH.keep k1 (by simpa using h.hH.ne h.hs (by decide))
    simpa [hcells] using this
  · exact h.hV.keep k1 (by simpa using h.hV.ne h.hs (by decide))
  · have := h.hs.set i (.float .f64 x)
    simpa [fvl, List.map_set] using this
  · exact h.hp.keep k1 (by simpa using h.hp.ne h.hs (by decide))
  · exact k1.owns h.hl (fun g hg e => hl (by rw [hg]; exact congrArg some e))
  · exact h.hlp
  · simpa using h.hn
  · simpa using h.hm
  · simpa using h.hv
  · exact h.hL

theorem HeapAt.stepped (h : HeapAt w H V bs bp lv s) (x : Nat) : HeapAt (w.setCell ⟨H, 5, none⟩ (.float .f64 x)) H V bs bp lv { s with step := x } := by
  have k1 := Fr.set w ⟨H, 5, none⟩ (.float .f64 x)
  have hl : lv.ownBlock ≠ some H := by
    intro e
    rcases owns_blk h.hl with ⟨rfl, _, _⟩ | ⟨g, cap, more, rfl, _, hgb, _⟩
    · simp [Value.ownBlock] at e
    · simp only [Value.ownBlock, Option.some.injEq] at e
      subst e
      exact (by decide : 54 ≠ 3) (h.hH.inj hgb).2
  constructor
  · exact h.hH.set 5 (.float .f64 x)
  · exact h.hV.keep k1 (by simpa using h.hV.ne h.hH (by decide))
  · exact h.hs.keep k1 (by simpa using h.hs.ne h.hH (by decide))
  · exact h.hp.keep k1 (by simpa using h.hp.ne h.hH (by decide))
  · exact k1.owns h.hl (fun g hg e => hl (by rw [hg]; exact congrArg some e))
  · exact h.hlp
  · exact h.hn
  · exact h.hm
  · exact h.hv
  · exact h.hL

theorem HeapAt.emptied (h : HeapAt w H V bs bp lv s) : HeapAt (w.setCell ⟨H, 0, none⟩ (.slice none 0 0)) H V bs bp (.slice none 0 0) { s with l := [] } := by
  have k1 := Fr.set w ⟨H, 0, none⟩ (.slice none 0 0)
  constructor
  · exact h.hH.set 0 _
  · exact h.hV.keep k1 (by simpa using h.hV.ne h.hH (by decide))
  · exact h.hs.keep k1 (by simpa using h.hs.ne h.hH (by decide))
  · exact h.hp.keep k1 (by simpa using h.hp.ne h.hH (by decide))
  · exact ⟨rfl, .inl ⟨rfl, rfl⟩⟩
  · simp [Value.ownBlock]
  · exact h.hn
  · exact h.hm
  · intro v hv; cases hv
  · simp

/-- All made small, and pushed anew. -/
def lessS (s : HS) : HS := s.l.foldl pushS { s with fs := s.fs.map (fmul · small), l := [], step := fmul s.step small }

theorem pushS_fs (s : HS) (x : Nat) : (pushS s x).fs = s.fs := rfl
theorem pushS_step (s : HS) (x : Nat) : (pushS s x).step = s.step := rfl
theorem upL_len (ah : Nat → Nat → Bool) (x : Nat) (i : Nat) : ∀ (l : List Nat) (ps : List Int), (upL ah x i l ps).1.length = l.length ∧ (upL ah x i l ps).2.length = ps.length := by
  induction i using Nat.strongRecOn with
  | _ i ih =>
    intro l ps
    by_cases h0 : 0 < i
    · by_cases h1 : ah x (l.getD ((i - 1) / 2) 0) = true
      · rw [upL_go h0 h1]
        have := ih ((i - 1) / 2) (by omega) (l.set i (l.getD ((i - 1) / 2) 0)) (ps.set (l.getD ((i - 1) / 2) 0) (i : Int))
        simpa using this
      · rw [upL_stop (fun _ => by simpa using h1)]; simp
    · rw [upL_stop (fun h => absurd h h0)]; simp
theorem pushS_len (s : HS) (x : Nat) : (pushS s x).l.length = s.l.length + 1 := by
  unfold pushS
  simp only [(upL_len _ _ _ _ _).1, List.length_append, List.length_cons, List.length_nil]
theorem foldl_push_len (xs : List Nat) : ∀ s : HS, (xs.foldl pushS s).l.length = s.l.length + xs.length := by
  induction xs with
  | nil => intro s; rfl
  | cons x r ih => intro s; rw [List.foldl_cons, ih, pushS_len]; simp; omega
theorem foldl_push_fs (xs : List Nat) : ∀ s : HS, (xs.foldl pushS s).fs = s.fs ∧ (xs.foldl pushS s).step = s.step := by
  induction xs with
  | nil => intro s; exact ⟨rfl, rfl⟩
  | cons x r ih => intro s; rw [List.foldl_cons]; exact ih _
end
end Go.Proofs.Ytldgeclcbikmbaa
