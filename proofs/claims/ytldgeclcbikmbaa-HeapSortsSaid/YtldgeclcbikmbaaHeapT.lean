/- The order by score, in plain Lean. -/
import Derived.Test.YtldgeclcbikmbaaHeapS
import Derived.Test.YtldgeclcbikmbaaSortW
import Derived.Test.YtldgeclcbikmbaaShelf
set_option linter.unusedVariables false
set_option linter.unusedSimpArgs false
namespace Go.Proofs.Ytldgeclcbikmbaa
open Go.RowKit Go.Sort Go.Proofs.Ytldgeclcbikmbaa.Flt

theorem HeapAt.keep {S : Nat → Prop} {w w' : World} {H V bs bp : Nat} {lv : Value} {s : HS} (h : HeapAt w H V bs bp lv s) (k : Fr S w w') (h1 : ¬ S H) (h2 : ¬ S V) (h3 : ¬ S bs) (h4 : ¬ S bp) (h5 : ∀ b, lv.ownBlock = some b → ¬ S b) : HeapAt w' H V bs bp lv s :=
  ⟨h.hH.keep k h1, h.hV.keep k h2, h.hs.keep k h3, h.hp.keep k h4, k.owns h.hl h5, h.hlp, h.hn, h.hm, h.hv, h.hL⟩

set_option maxHeartbeats 400000 in
theorem order1_any {w : World} {H V bs bp B : Nat} {lv : Value} {s : HS} (h : HeapAt w H V bs bp lv s) (hB : w.cell? ⟨B, 0, none⟩ = some (.pointer (some ⟨H, 0, none⟩))) {a b : Nat} (ha : a < s.fs.length) (hb : b < s.fs.length) :
    Calls Try.prog 27 #[.int .i64 a, .int .i64 b, .pointer (some ⟨B, 0, none⟩)] w fun e w' => e = .returned (.int .i64 (if ahs s.fs a b = true then -1 else 1)) ∧ ∃ k, w' = w.drewN k := by
  have hc := ahead_heap h ha hb
  cases hd : ahs s.fs a b
  · simp only [hd] at hc
    rw [if_neg (by simp)]
    clear h hd
    go_enter Try.func27, Try.ntmps27
    go_wp2_with (go_at_call 28; ((with_reducible refine hc.mono ?_); rintro e w' ⟨rfl, k, rfl⟩))
    go_ret
    exact ⟨rfl, _, rfl⟩
  · simp only [hd] at hc
    rw [if_pos rfl]
    clear h hd
    go_enter Try.func27, Try.ntmps27
    go_wp2_with (go_at_call 28; ((with_reducible refine hc.mono ?_); rintro e w' ⟨rfl, k, rfl⟩))
    go_ret
    exact ⟨rfl, _, rfl⟩

/-- The variables of a heap. -/
abbrev Vr (n : Nat) := { v : Nat // v < n }
def encV (n : Nat) (x : Vr n) : Value := iv x.1
def cfV (fs : List Nat) (n : Nat) (x y : Vr n) : Int := if ahs fs x.1 y.1 = true then -1 else 1
theorem ltV (fs : List Nat) (n : Nat) (x y : Vr n) : ltOf (cfV fs n) x y = ahs fs x.1 y.1 := by
  unfold ltOf cfV
  cases h : ahs fs x.1 y.1 <;> simp
theorem swoV {fs : List Nat} (hO : STO (ahs fs)) (n : Nat) : SWO (ltOf (cfV fs n)) where
  irrefl x := by rw [ltV]; exact hO.irr _
  trans x y z h1 h2 := by rw [ltV] at *; exact hO.tr _ _ _ h1 h2
  ntrans x y z h1 h2 := by rw [ltV] at *; exact hO.ntr h1 h2
theorem totV {fs : List Nat} (hO : STO (ahs fs)) (n : Nat) (x y : Vr n) (h1 : ltOf (cfV fs n) x y = false) (h2 : ltOf (cfV fs n) y x = false) : x = y := by
  rw [ltV] at *
  exact Subtype.ext (hO.tot _ _ h1 h2)

/-- A row in order. -/
def inOrder (fs : List Nat) (l : List Nat) : List Nat := l.mergeSort fun x y => !(ahs fs y x)
theorem inOrder_perm (fs l : List Nat) : (inOrder fs l).Perm l := List.mergeSort_perm _ _
theorem inOrder_sub (fs : List Nat) (n : Nat) (l : List Nat) (hl : ∀ v ∈ l, v < n) : ∃ d : List (Vr n), d.map (encV n) = nvl l ∧ (d.mergeSort fun x y => !(ltOf (cfV fs n)) y x).map (encV n) = nvl (inOrder fs l) ∧ d.length = l.length := by
  refine ⟨l.pmap (fun v hv => (⟨v, hv⟩ : Vr n)) hl, ?_, ?_, by simp⟩
  · rw [nvl, List.map_pmap]; simp [encV]
  · have e : encV n = iv ∘ Subtype.val := rfl
    rw [e, ← List.map_map, List.map_mergeSort (s := fun x y => !(ahs fs y x)) (fun a _ b _ => by rw [ltV]), List.map_pmap]
    simp [nvl, inOrder]
end Go.Proofs.Ytldgeclcbikmbaa
